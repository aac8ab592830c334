/- The reference's NextHouse: other pay untie close revoke klass. -/
import Derived.Test.YtggfdkkhlokmlabNextH
set_option linter.unusedSimpArgs false
namespace Go.Proofs.Ytggfdkkhlokmlab
open Go.RowKit
attribute [local go_sem] hc_pays hc_next hc_size pc_size rc_0 rc_1 rc_2 rc_size dc_0 dc_1 dc_2 dc_3 dc_4 dc_size
set_option maxRecDepth 100000 in
set_option maxHeartbeats 64000000 in
theorem nh_A (h : Hs) (l : List Pay) (a0 : Option Addr) (cap0 : Nat) (k a b c n : Int) (w : World) (hp : PaysAt w a0 cap0 l) (g : GoodP h l) (hgb : goodB h l = true) (hk : (k ≠ 1 ∧ k ≠ 2 ∧ k ≠ 3 ∧ k ≠ 4 ∧ k ≠ 5 ∧ k ≠ 6 ∧ k ≠ 7 ∧ k ≠ 8 ∧ k ≠ 9) ∨ k = 1 ∨ k = 8 ∨ k = 9 ∨ k = 2 ∨ k = 3) :
  Calls Try.prog 35 #[.agg (hc h (.slice a0 l.length cap0)), .agg (dc ⟨k, a, b, c, n⟩)] w (NextsPost a0 (nextL h l ⟨k, a, b, c, n⟩) w) := by
 have hpl : 0 < l.length → ∀ b off s, a0 = some ⟨b, off, s⟩ → b < w.heap.size := fun hl b off s e => by
  obtain ⟨b', off', e', hbl, _⟩ := hp.row hl
  rw [e] at e'; cases e'; exact hbl
 have hlen := g.len
 have hroom := g.room
 have hnx := sm_true g.next
 replace hp := Lib.hid hp
 replace hpl := Lib.hid hpl
 replace hgb := Lib.hid hgb
 go_enter Try.func35, Try.ntmps35
 go_upto_region 1 with fail
 generalize hW : World.alloc (World.alloc (World.alloc (World.alloc w _) _) _) _ = W0
 obtain ⟨hA, hD, hH, hR, hB⟩ : W0.heap[w.heap.size]? = some (.cells (hc h (.slice a0 l.length cap0)) 29 (0, 0)) ∧ W0.heap[w.heap.size + 1]? = some (.cells (dc ⟨k, a, b, c, n⟩) 40 (0, 0)) ∧ W0.heap[w.heap.size + 2]? = some (.cells (hc Hs.zero (.slice none 0 0)) 29 (0, 0)) ∧ W0.heap[w.heap.size + 3]? = some (.cells (rc 0 0 (.slice none 0 0)) 44 (0, 0)) ∧ Below w.heap.size w W0 := by rw [← hW]; exact four4 w _ _ _ _
 have hp0 := hp.out.below hB
 have hsz : w.heap.size + 4 = W0.heap.size := by rw [← hW]; simp
 clear hW
 go_upto_region 4 with (first | go_skip | (refine ld_row 29 _ rfl rfl _ rfl _ _ _ _ hA Try.underlying29 rfl info30 ?_) | (go_at_call 64; refine (isHouse_any h l _ cap0 _ hp0).mono ?_; rintro e w1 ⟨rfl, hb1⟩; rw [hgb.out]))
 replace hA := hkeep hb1 hA
 replace hD := hkeep hb1 hD
 replace hH := hkeep hb1 hH
 replace hR := hkeep hb1 hR
 replace hp0 := hp0.below hb1
 have hsz1 : w.heap.size + 4 ≤ w1.heap.size := by have := hb1.size; omega
 replace hB := bstep hB hB.size hb1
 clear hb1 hsz
 go_upto_region 5 with (first | go_skip | (refine ld_row 29 _ rfl rfl _ rfl _ _ _ _ hA Try.underlying29 rfl info30 ?_) | (go_at_call 33; refine (copyHouse_any h l _ cap0 _ hp0).mono ?_; rintro e w2 ⟨⟨v1, rfl, hown⟩, hb2⟩; obtain ⟨a1, cap1, rfl, hp1, hpb1⟩ := hown.at_) | (refine st_new 29 _ _ rfl _ 29 _ rfl rfl rfl (hc h (.slice a1 l.length cap1)) rfl info30 rfl (hc_one _ _ rfl) ?_))
 have hX := hnew w2 (.cells (hc h (.slice a1 l.length cap1)) 29)
 have hL := hb2.alloc hb2.size (.cells (hc h (.slice a1 l.length cap1)) 29)
 have hown3 := hown.below ((Below.refl _ _).alloc (Nat.le_refl _) (.cells (hc h (.slice a1 l.length cap1)) 29))
 have hxs := hb2.size
 have hx3 : (w2.alloc (.cells (hc h (.slice a1 l.length cap1)) 29)).heap.size = w2.heap.size + 1 := by simp
 have hob : ∀ x, (Value.slice a1 l.length cap1).ownBlock = some x → x < w2.heap.size := fun x hx => (pays_own hown hx).2.1
 replace hA := hkeep hL hA
 replace hD := hkeep hL hD
 replace hH := hkeep hL hH
 replace hR := hkeep hL hR
 replace hp0 := hp0.below hL
 replace hB := bstep hB hB.size hL
 generalize w2.alloc (.cells (hc h (.slice a1 l.length cap1)) 29) = w3 at *
 generalize w2.heap.size = bx at *
 clear hown hp1 hb2 hpb1
 simp only [Act.put]
 go_upto_region 6 with fail
 generalize hW4 : World.alloc w3 _ = w4
 have hY : w4.heap[w3.heap.size]? = some (.cells (rc 0 0 (.slice none 0 0)) 44 (0, 0)) := by rw [← hW4]; exact hnew w3 _
 have hb4 : Below w3.heap.size w3 w4 := by rw [← hW4]; exact (Below.refl _ _).alloc (Nat.le_refl _) _
 replace hA := hkeep hb4 hA
 replace hD := hkeep hb4 hD
 replace hH := hkeep hb4 hH
 replace hR := hkeep hb4 hR
 replace hX := hkeep hb4 hX
 replace hp0 := hp0.below hb4
 replace hB := bstep hB hB.size hb4
 replace hL := bstep hL hL.size hb4
 have hown := hown3.below hb4
 clear hW4 hown3 hb4
 rw [hx3] at *
 have cA := cells_at hA
 have cD := cells_at hD
 replace hown := Lib.hid hown
 replace hob := Lib.hid hob
 go_upto_region 7 with (first | go_skip | (go_at_call 59; refine (within_any _ _ _ _).mono ?_; rintro e w' ⟨rfl, rfl⟩))
 go_cut [10] from 29 to 51 (fun s10 wx => s10 = .bool (waitsAt l a) ∧ w4 = wx)
 case first =>
  by_cases ha : 0 ≤ a ∧ a < l.length
  ·obtain ⟨i, rfl⟩ : ∃ i : Nat, a = i := ⟨a.toNat, by omega⟩
   obtain ⟨b1, o1, rfl, _, hc1⟩ := hp0.row (by omega)
   have hil : i < l.length := by omega
   obtain ⟨s0, hs0⟩ : ∃ s0, (payAt l i).st = s0 := ⟨_, rfl⟩
   have hcj : w4.cell? ⟨b1, o1 + i * 6 + 4, none⟩ = some (.int .i64 s0) := by rw [← hs0, Nat.add_assoc]; exact hc1 i (payAt l i) (payAt_get hil) 4 _ rfl
   have hs : sm 0 (i : Int) ((l.length : Int) - 1) = true := sm_yes (by omega)
   have hmx : max (i : Int) 0 = (i : Int) := by omega
   have hmn : min (i : Int) ((l.length : Int) - 1) = (i : Int) := by omega
   have hw : waitsAt l (i : Int) = (s0 == 1) := by
    rw [← hs0, Bool.eq_iff_iff, waitsAt_iff, beq_iff_eq, Int.toNat_natCast]
    exact ⟨fun h => h.2.2, fun h => ⟨by omega, by omega, h⟩⟩
   have hili : (i : Int) < (l.length : Int) := by omega
   have hli : (l.length : Int) ≤ 24 := by omega
   clear hc1
   replace hs0 := Lib.hid hs0
   replace hw := Lib.hid hw
   go_wp2_with (first | go_skip | (go_at_call 59; refine (within_any _ _ _ _).mono ?_; rintro e w' ⟨rfl, rfl⟩; first | rw [hs]))
   go_meet
   case rel => exact ⟨by rw [hw.out], rfl⟩
  ·have hs : sm 0 a ((l.length : Int) - 1) = false := by
    simp only [sm, decide_eq_false_iff_not]; omega
   have hw : waitsAt l a = false := by
    simp only [waitsAt, decide_eq_false_iff_not]; omega
   have hli : (l.length : Int) ≤ 24 := by omega
   replace hw := Lib.hid hw
   go_wp2_with (first | go_skip | (go_at_call 59; refine (within_any _ _ _ _).mono ?_; rintro e w' ⟨rfl, rfl⟩; first | rw [hs]))
   go_meet
   case rel => exact ⟨by rw [hw.out], rfl⟩
 case rest =>
 obtain ⟨rfl, rfl⟩ := hcut
 rcases hk with hk | rfl | rfl | rfl | rfl | rfl
 ·obtain ⟨k1, k2, k3, k4, k5, k6, k7, k8, k9⟩ := hk
  have q1 : (k == 1) = false := by rw [beq_eq_false_iff_ne]; exact k1
  have q2 : (k == 2) = false := by rw [beq_eq_false_iff_ne]; exact k2
  have q3 : (k == 3) = false := by rw [beq_eq_false_iff_ne]; exact k3
  have q4 : (k == 4) = false := by rw [beq_eq_false_iff_ne]; exact k4
  have q5 : (k == 5) = false := by rw [beq_eq_false_iff_ne]; exact k5
  have q6 : (k == 6) = false := by rw [beq_eq_false_iff_ne]; exact k6
  have q7 : (k == 7) = false := by rw [beq_eq_false_iff_ne]; exact k7
  have q8 : (k == 8) = false := by rw [beq_eq_false_iff_ne]; exact k8
  have q9 : (k == 9) = false := by rw [beq_eq_false_iff_ne]; exact k9
  clear cA
  have eN : nextL h l ⟨k, a, b, c, n⟩ = .err h l 2 := nl_none hgb.out k1 k2 k3 k4 k5 k6 k7 k8 k9
  replace eN := Lib.hid eN
  clear k1 k2 k3 k4 k5 k6 k7 k8 k9
  go_wp2_with (first | go_skip | (go_at_call 63; refine (refNo_any h _ rfl 2 w.heap.size _ hA).mono ?_; rintro e wn ⟨rfl, hbn⟩) | (refine st_row 29 _ _ rfl rfl _ rfl _ rfl _ _ (hkeep hbn hH) info30 rfl (hc_one _ _ rfl) ?_; intro wa hra hgra hsza) | (refine st_row 44 _ _ rfl rfl _ rfl (rc 2 0 (.slice none 0 0)) rfl _ _ ((hgra.block _ (hlt (hkeep hbn hR)) (by simp)).trans (hkeep hbn hR)) infoRp rfl (rc_one _ _ _ rfl) ?_; intro wb hrb hgrb hszb))
  exact bodyPost_ret (results_hr rfl _ _ _ _ _ _ _ _ _ rfl rfl ((hgrb.block _ (hlt hra) (by simp)).trans hra) hrb) rfl (by rw [eN.out]; exact nexts_end (X := .err h l 2) rfl (bstep hB hB.size hbn) hgra hgrb (hp0.below hbn) (fun hl b off s e => ⟨.inl ⟨rfl, by simp [Nx.err]⟩, by have := hpl.out hl b off s e; omega, by have := hpl.out hl b off s e; omega, by simp [Value.ownBlock]⟩) (OwnInts.nil _ _) (fun x hx => by simp [Value.ownBlock] at hx))
 ·obtain ⟨i0, z, hi, hz0, hz1, hz2, hz3⟩ := info36z
  obtain ⟨p, hpe⟩ : ∃ p : Pay, payOf h ⟨1, a, b, c, n⟩ = p := ⟨_, rfl⟩
  have hpc : #[Value.int .i64 a, .int .i64 b, .int .i64 n, .int .i64 c, .int .i64 1, .int .i64 h.next] = pc p := by rw [← hpe]; rfl
  have cG := fun w => isPay_any p w
  replace cG := Lib.hid cG
  replace hpc := Lib.hid hpc
  have nl1 := nl_pay1 (d := ⟨1, a, b, c, n⟩) hgb.out rfl
  have nl2 := nl_pay2 (d := ⟨1, a, b, c, n⟩) hgb.out rfl
  have nl3 := nl_pay (d := ⟨1, a, b, c, n⟩) hgb.out rfl
  rw [hpe] at nl1 nl2 nl3
  replace nl1 := Lib.hid nl1
  replace nl2 := Lib.hid nl2
  replace nl3 := Lib.hid nl3
  replace hpe := Lib.hid hpe
  go_upto_region 12 with (first | go_skip | (refine st_new 70 _ _ rfl _ 70 _ rfl rfl rfl (pc p) (by rw [← hpc.out]; rfl) info36 rfl (pc_one p) ?_))
  have hP := hnew w4 (.cells (pc p) 70)
  have hbP : Below w4.heap.size w4 (w4.alloc (.cells (pc p) 70)) := (Below.refl _ _).alloc (Nat.le_refl _) _
  clear cA cD
  have hyl0 := hlt hY
  replace hA := hkeep hbP hA
  replace hD := hkeep hbP hD
  replace hH := hkeep hbP hH
  replace hR := hkeep hbP hR
  replace hX := hkeep hbP hX
  replace hY := hkeep hbP hY
  replace hp0 := hp0.below hbP
  replace hB := bstep hB hB.size hbP
  replace hL := bstep hL hL.size hbP
  replace hown := Lib.hid (hown.out.below hbP)
  generalize hbp : w4.heap.size = bp at *
  generalize w4.alloc (.cells (pc p) 70) = w5 at *
  clear hbP
  have hbpl := hlt hP
  by_cases e1 : goodPay p = false
  ·go_upto_region 13 with (first | go_skip | (refine ld_row 70 _ rfl rfl _ rfl _ _ _ _ hP Try.underlying70 rfl info36 ?_) | (go_at_call 65; refine (cG.out _).mono ?_; rintro e w6 ⟨rfl, hb6⟩; rw [e1]))
   replace hA := hkeep hb6 hA
   replace hD := hkeep hb6 hD
   replace hH := hkeep hb6 hH
   replace hR := hkeep hb6 hR
   replace hX := hkeep hb6 hX
   replace hY := hkeep hb6 hY
   replace hP := hkeep hb6 hP
   replace hp0 := hp0.below hb6
   replace hB := bstep hB hB.size hb6
   replace hL := bstep hL hL.size hb6
   replace hown := Lib.hid (hown.out.below hb6)
   clear hb6
   have eN : nextL h l ⟨1, a, b, c, n⟩ = .err h l 3 := nl1.out e1
   replace eN := Lib.hid eN
   go_wp2_with (first | go_skip | (go_at_call 63; refine (refNo_any h _ rfl 3 w.heap.size _ hA).mono ?_; rintro e wn ⟨rfl, hbn⟩) | (refine st_row 29 _ _ rfl rfl _ rfl _ rfl _ _ (hkeep hbn hH) info30 rfl (hc_one _ _ rfl) ?_; intro wa hra hgra hsza) | (refine st_row 44 _ _ rfl rfl _ rfl (rc 3 0 (.slice none 0 0)) rfl _ _ ((hgra.block _ (hlt (hkeep hbn hR)) (by simp)).trans (hkeep hbn hR)) infoRp rfl (rc_one _ _ _ rfl) ?_; intro wb hrb hgrb hszb))
   exact bodyPost_ret (results_hr rfl _ _ _ _ _ _ _ _ _ rfl rfl ((hgrb.block _ (hlt hra) (by simp)).trans hra) hrb) rfl (by rw [eN.out]; exact nexts_end (X := .err h l 3) rfl (bstep hB hB.size hbn) hgra hgrb (hp0.below hbn) (fun hl b off s e => ⟨.inl ⟨rfl, by simp [Nx.err]⟩, by have := hpl.out hl b off s e; omega, by have := hpl.out hl b off s e; omega, by simp [Value.ownBlock]⟩) (OwnInts.nil _ _) (fun x hx => by simp [Value.ownBlock] at hx))
  have e1 : goodPay p = true := by simpa using e1
  go_upto_region 14 with (first | go_skip | (refine ld_row 70 _ rfl rfl _ rfl _ _ _ _ hP Try.underlying70 rfl info36 ?_) | (go_at_call 65; refine (cG.out _).mono ?_; rintro e w6 ⟨rfl, hb6⟩; rw [e1]))
  replace hA := hkeep hb6 hA
  replace hD := hkeep hb6 hD
  replace hH := hkeep hb6 hH
  replace hR := hkeep hb6 hR
  replace hX := hkeep hb6 hX
  replace hY := hkeep hb6 hY
  replace hP := hkeep hb6 hP
  replace hp0 := hp0.below hb6
  replace hB := bstep hB hB.size hb6
  replace hL := bstep hL hL.size hb6
  replace hown := Lib.hid (hown.out.below hb6)
  clear hb6
  have cA := cells_at hA
  by_cases f1 : l.length = 24
  ·have d1 : ((l.length : Int) == 24) = true := by rw [f1]; rfl
   have eN1 := nl2.out e1 (.inl (by omega))
   replace f1 := Lib.hid f1
   have eN : nextL h l ⟨1, a, b, c, n⟩ = .err h l 5 := eN1
   replace eN := Lib.hid eN
   go_wp2_with (first | go_skip | (go_at_call 63; refine (refNo_any h _ rfl 5 w.heap.size _ hA).mono ?_; rintro e wn ⟨rfl, hbn⟩) | (refine st_row 29 _ _ rfl rfl _ rfl _ rfl _ _ (hkeep hbn hH) info30 rfl (hc_one _ _ rfl) ?_; intro wa hra hgra hsza) | (refine st_row 44 _ _ rfl rfl _ rfl (rc 5 0 (.slice none 0 0)) rfl _ _ ((hgra.block _ (hlt (hkeep hbn hR)) (by simp)).trans (hkeep hbn hR)) infoRp rfl (rc_one _ _ _ rfl) ?_; intro wb hrb hgrb hszb))
   exact bodyPost_ret (results_hr rfl _ _ _ _ _ _ _ _ _ rfl rfl ((hgrb.block _ (hlt hra) (by simp)).trans hra) hrb) rfl (by rw [eN.out]; exact nexts_end (X := .err h l 5) rfl (bstep hB hB.size hbn) hgra hgrb (hp0.below hbn) (fun hl b off s e => ⟨.inl ⟨rfl, by simp [Nx.err]⟩, by have := hpl.out hl b off s e; omega, by have := hpl.out hl b off s e; omega, by simp [Value.ownBlock]⟩) (OwnInts.nil _ _) (fun x hx => by simp [Value.ownBlock] at hx))
  have d1 : ((l.length : Int) == 24) = false := by rw [beq_eq_false_iff_ne]; omega
  by_cases f2 : h.next = 1048576
  ·have d2 : (h.next == 1048576) = true := by rw [beq_iff_eq]; exact f2
   have eN1 := nl2.out e1 (.inr (by omega))
   replace f2 := Lib.hid f2
   have eN : nextL h l ⟨1, a, b, c, n⟩ = .err h l 5 := eN1
   replace eN := Lib.hid eN
   go_wp2_with (first | go_skip | (go_at_call 63; refine (refNo_any h _ rfl 5 w.heap.size _ hA).mono ?_; rintro e wn ⟨rfl, hbn⟩) | (refine st_row 29 _ _ rfl rfl _ rfl _ rfl _ _ (hkeep hbn hH) info30 rfl (hc_one _ _ rfl) ?_; intro wa hra hgra hsza) | (refine st_row 44 _ _ rfl rfl _ rfl (rc 5 0 (.slice none 0 0)) rfl _ _ ((hgra.block _ (hlt (hkeep hbn hR)) (by simp)).trans (hkeep hbn hR)) infoRp rfl (rc_one _ _ _ rfl) ?_; intro wb hrb hgrb hszb))
   exact bodyPost_ret (results_hr rfl _ _ _ _ _ _ _ _ _ rfl rfl ((hgrb.block _ (hlt hra) (by simp)).trans hra) hrb) rfl (by rw [eN.out]; exact nexts_end (X := .err h l 5) rfl (bstep hB hB.size hbn) hgra hgrb (hp0.below hbn) (fun hl b off s e => ⟨.inl ⟨rfl, by simp [Nx.err]⟩, by have := hpl.out hl b off s e; omega, by have := hpl.out hl b off s e; omega, by simp [Value.ownBlock]⟩) (OwnInts.nil _ _) (fun x hx => by simp [Value.ownBlock] at hx))
  have d2 : (h.next == 1048576) = false := by rw [beq_eq_false_iff_ne]; exact f2
  have eNL := nl3.out e1 (by omega)
  have hL1 : (l ++ [p]).length = l.length + 1 := by simp
  replace eNL := Lib.hid eNL
  replace e1 := Lib.hid e1
  have cX := cells_at hX
  have fY := frozenAt hY
  have cY := cells_at hY
  have hsetY := Lib.hid (hsetSame (i := 1) hY (.int .i64 (l.length : Int)))
  go_upto_region 17 with fail
  clear cA cX fY cY
  generalize hWs : World.setCell w6 _ _ = w7
  have hO7 : Only (fun b => b = bx + 1) w6 w7 := by rw [← hWs]; exact only_set (bx + 1) 1 _ _
  have hY7 : w7.heap[bx + 1]? = some (.cells (rc 0 (l.length : Int) (.slice none 0 0)) 44 (0, 0)) := by rw [← hWs]; exact hsetY.out
  have hX7 := (hO7.block bx (hlt hX) (by omega)).trans hX
  have hH7 := (hO7.block _ (hlt hH) (by omega)).trans hH
  have hR7 := (hO7.block _ (hlt hR) (by omega)).trans hR
  have hP7 := (hO7.block bp (hlt hP) (by omega)).trans hP
  have hB7 : Below w.heap.size w w7 := ((only_new (av := fun b => w.heap.size ≤ b) hB).step hO7 fun b e => by left; omega).below (Nat.le_refl _) fun _ h => h
  have hL7 : Below w1.heap.size w1 w7 := ((only_new (av := fun b => w1.heap.size ≤ b) hL).step hO7 fun b e => by left; omega).below (Nat.le_refl _) fun _ h => h
  have hown7 : OwnPays w7 w1.heap.size (.slice a1 l.length cap1) l := ⟨owns_only' hown.out.1 hO7 fun x hx e => by have := hob.out x hx; omega, hown.out.2⟩
  have hown8 : Hid (∀ C, OwnPays (w7.alloc C) w1.heap.size (.slice a1 l.length cap1) l) := Lib.hid fun C => hown7.below ((Below.refl _ _).alloc (Nat.le_refl _) C)
  have cX := cells_at hX7
  clear hWs hsetY hA hD hH hR hX hY hP hB hL hp0 hown
  go_upto_region 18 with (first | go_skip | (refine ld_row 70 _ rfl rfl _ rfl _ _ _ _ hP7 Try.underlying70 rfl info36 ?_) | (at_builtin; refine wpList_append_fresh _ rfl _ _ 27 rfl w1.heap.size 70 i0 z 6 48 Try.underlying27 hi hz0 hz1 hz2 hz3 (by decide) (.slice a1 l.length cap1) l.length (flat l) rfl (hown8.out _).1 ⟨w7.heap.size, 0, none⟩ 1 1 (pc p).toList rfl rfl ?c1 ?c2 ?c3 ?c4 ?c5 ?_))
  case c1 =>
   suffices hC : ∀ C, C = pc p → ∀ (j : Nat) (u : Value), (pc p).toList[j]? = some u → (w7.alloc (.cells C 70)).cell? ((⟨w7.heap.size, 0, none⟩ : Addr).add j) = some u from hC _ rfl
   intro C hC
   subst hC
   intro j u hu
   have hadd : (⟨w7.heap.size, 0, none⟩ : Addr).add j = ⟨w7.heap.size, 0 + j, none⟩ := by unfold Addr.add; split <;> simp_all
   rw [hadd, Nat.zero_add, cells_at (hnew w7 _)]
   simpa using hu
  case c2 => intro u hu; exact (Array.all_eq_true_iff_forall_mem.1 (pc_one p)) u (by simpa using hu)
  case c3 => simp only [maxLen]; omega
  case c4 => omega
  case c5 => rw [alloc_sz]; have := hL7.size; omega
  intro v' w8 hown2 hgr2 hfr
  have hfin : ∃ C, (w7.alloc (.cells C 70)).grownBy w8 (Value.slice a1 l.length cap1).ownBlock := ⟨_, hgr2⟩
  obtain ⟨C, hgr⟩ := hfin
  have hO4 : OwnPays w8 w1.heap.size v' (l ++ [p]) := ⟨by rw [hL1, show flat (l ++ [p]) = flat l ++ (pc p).toList from by simp [flat]]; exact hown2, by rw [hL1]; omega⟩
  obtain ⟨a2, cap2, e, hp3, hpb3⟩ := hO4.at_
  rw [hL1] at e
  subst e
  have hbx7 := hlt hX7
  have hby7 := hlt hY7
  have hfr' : ∀ x, (Value.slice a2 (l.length + 1) cap2).ownBlock = some x → x < bx ∨ w7.heap.size ≤ x := fun x hx => (hfr x hx).imp (fun e => hob.out x e) fun h => by first | exact h | (rw [alloc_sz] at h; omega) | omega
  have kp : ∀ b' o, w7.heap[b']? = some o → (w.heap.size + 2 ≤ b' ∧ (b' = bx ∨ b' = bx + 1 ∨ b' < w1.heap.size)) → w8.heap[b']? = some o := fun b' o ho hb' => (hgr.block b' (by rw [alloc_sz]; have := hlt ho; omega) (fun e => by have h1 := hob.out b' e.symm; have h2 := (pays_own hown7 e.symm).1; omega)).trans (hold ho _)
  have hX8 := kp bx _ hX7 (by omega)
  have hY8 := kp (bx + 1) _ hY7 (by omega)
  have hH8 := kp _ _ hH7 (by omega)
  have hR8 := kp _ _ hR7 (by omega)
  have hB8 : Below w.heap.size w w8 := (hB7.alloc hB7.size _).grown hgr (by rw [alloc_sz]; have := hB7.size; omega) fun k hk => by have := (pays_own hown7 hk).1; omega
  have hL8 : Below w1.heap.size w1 w8 := (hL7.alloc hL7.size _).grown hgr (by rw [alloc_sz]; have := hL7.size; omega) fun k hk => (pays_own hown7 hk).1
  have hsr : 0 < (l ++ [p]).length → ∀ b off s, a2 = some ⟨b, off, s⟩ → (False ∨ w1.heap.size ≤ b) ∧ (Value.slice none 0 0).ownBlock ≠ some b ∧ b ≠ bx ∧ b ≠ bx + 1 := fun _ b off s e => by
   have h1 := hpb3 b off s e
   have h2 := hfr' b (by rw [e]; rfl)
   exact ⟨.inr h1, by simp [Value.ownBlock], by omega, by omega⟩
  clear hgr2 hgr hfr hfr' hown2 hO4 hX7 hY7 hH7 hR7 hP7 hB7 hL7 hown7 hown8 hO7 cX kp hpb3
  have cX := cells_at hX8
  have fX := frozenAt hX8
  have hset := hsetSame (i := 40) hX8 (.slice a2 (l.length + 1) cap2)
  rw [hc_setPays] at hset
  have hset2 := hsetSame (i := 41) hset (.int .i64 (h.next + 1))
  rw [hc_setNext] at hset2
  replace hset := Lib.hid hset
  replace hset2 := Lib.hid hset2
  replace hsr := Lib.hid hsr
  replace hp3 := Lib.hid hp3
  replace hL1 := Lib.hid hL1
  go_upto_region 62 with fail
  clear cX fX
  generalize hWs : World.setCell (World.setCell w8 _ _) _ _ = wq
  have hOq : Only (fun b => b = bx) w8 wq := by rw [← hWs]; exact (only_set bx _ _ _).trans (only_set bx _ _ _)
  have hXq : wq.heap[bx]? = some (.cells (hc (h.setNext (h.next + 1)) (.slice a2 (l ++ [p]).length cap2)) 29 (0, 0)) := by rw [hL1.out, ← hWs]; exact hset2.out
  have hYq := (hOq.block (bx + 1) (hlt hY8) (by omega)).trans hY8
  have hHq := (hOq.block _ (hlt hH8) (by omega)).trans hH8
  have hRq := (hOq.block _ (hlt hR8) (by omega)).trans hR8
  have hBq : Below w.heap.size w wq := ((only_new (av := fun b => w.heap.size ≤ b) hB8).step hOq fun b e => by left; omega).below (Nat.le_refl _) fun _ h => h
  have hLq : Below w1.heap.size w1 wq := ((only_new (av := fun b => w1.heap.size ≤ b) hL8).step hOq fun b e => by left; omega).below (Nat.le_refl _) fun _ h => h
  have hpq : PaysAt wq a2 cap2 (l ++ [p]) := hOq.pays hp3.out fun hl b off s e => (hsr.out hl b off s e).2.2.1
  clear hWs hset hset2 hOq hX8 hY8 hH8 hR8 hB8 hL8 hp3
  have t : Two (fun _ => False) w1 wq bx (bx + 1) ⟨h.setNext (h.next + 1), l ++ [p], 0, (l.length : Int), []⟩ a2 cap2 (Value.slice none 0 0) := ⟨hLq, hXq, hYq, by omega, by omega, by omega, hpq, OwnInts.nil _ _, hsr.out, ⟨by simp [Value.ownBlock], by simp [Value.ownBlock]⟩⟩
  have eN : nextL h l ⟨1, a, b, c, n⟩ = .swept (⟨h.setNext (h.next + 1), l ++ [p], 0, (l.length : Int), []⟩ : Nx).h (⟨h.setNext (h.next + 1), l ++ [p], 0, (l.length : Int), []⟩ : Nx).l (⟨h.setNext (h.next + 1), l ++ [p], 0, (l.length : Int), []⟩ : Nx).n (⟨h.setNext (h.next + 1), l ++ [p], 0, (l.length : Int), []⟩ : Nx).done := eNL.out
  have hsm : (⟨h.setNext (h.next + 1), l ++ [p], 0, (l.length : Int), []⟩ : Nx).done.length ≤ 24 ∧ (⟨h.setNext (h.next + 1), l ++ [p], 0, (l.length : Int), []⟩ : Nx).l.length ≤ 25 ∧ (⟨h.setNext (h.next + 1), l ++ [p], 0, (l.length : Int), []⟩ : Nx).code = 0 := ⟨by simp, by simp only [hL1.out]; omega, rfl⟩
  obtain ⟨M, hM⟩ : ∃ M : Nx, ⟨h.setNext (h.next + 1), l ++ [p], 0, (l.length : Int), []⟩ = M := ⟨_, rfl⟩
  rw [hM] at t eN hsm
  replace hM := Lib.hid hM
  obtain ⟨hdM, hlM, hcM⟩ := hsm
  obtain ⟨vr, hvr⟩ : ∃ vr : Value, (Value.slice none 0 0) = vr := ⟨_, rfl⟩
  rw [hvr] at t
  replace hvr := Lib.hid hvr
  obtain ⟨ax, hax⟩ : ∃ ax : Option Addr, a2 = ax := ⟨_, rfl⟩
  rw [hax] at t
  replace hax := Lib.hid hax
  obtain ⟨al, cl, rfl, _, hal⟩ := t.ints.at_
  have hx := t.hx
  have hy := t.hy
  rw [hcM] at hy
  have hsc := t.low.size
  have cS := fun w hp => sweepHouse_anyS M.h M.l ax cap2 w hp
  obtain ⟨T, hT⟩ : ∃ T, sweepG M.h M.l = T := ⟨_, rfl⟩
  rw [hT] at cS
  have eX : nextL h l ⟨1, a, b, c, n⟩ = ⟨T.h, T.l, 0, M.n, M.done ++ T.d⟩ := by rw [eN, ← hT]; rfl
  have hlT : T.l.length = M.l.length := by rw [← hT]; exact (sweep_ext M.h M.l).len
  have hdT : T.d.length ≤ M.l.length := by rw [← hT]; exact ext_le (sweep_ext M.h M.l)
  clear eN
  replace hcM := Lib.hid hcM
  replace eX := Lib.hid eX
  replace cS := Lib.hid cS
  replace hT := Lib.hid hT
  replace hal := Lib.hid hal
  replace hlT := Lib.hid hlT
  clear hXq hYq hLq
  go_upto_region 63 with (first | go_skip | (refine ld_row 29 _ rfl rfl _ rfl _ _ _ _ hx Try.underlying29 rfl info30 ?_) | (go_at_call 67; refine (cS.out _ t.pays).mono ?_; rintro e w5 ⟨⟨a2, cap2, v2, rfl, hp2, ho2, hfa, hap⟩, hb5⟩) | (refine st_new 29 _ _ rfl _ 29 _ rfl rfl rfl (hc T.h (.slice a2 T.l.length cap2)) rfl info30 rfl (hc_one _ _ rfl) ?_))
  have hZ6 := hnew w5 (.cells (hc T.h (.slice a2 T.l.length cap2)) 29)
  have hb6 := hb5.alloc hb5.size (.cells (hc T.h (.slice a2 T.l.length cap2)) 29)
  have hs5 := hb5.size
  have hxl := hlt hx
  have hyl := hlt hy
  have hfb : 0 < T.l.length → ∀ b off s, a2 = some ⟨b, off, s⟩ → (w1.heap.size ≤ b ∧ b ≠ w5.heap.size ∧ b ≠ bx + 1 ∧ (Value.slice al (nats M.done).length cl).ownBlock ≠ some b) := fun hl b off s e => by
   have hbl : b < w5.heap.size := by
    obtain ⟨b', off', e', hbl, _⟩ := hp2.row hl
    rw [e] at e'; cases e'; exact hbl
   rcases hfa b off s e with ⟨off', s', e'⟩ | hge
   ·have hs := t.src (by rw [← hlT.out]; exact hl) b off' s' e'
    exact ⟨hs.1.resolve_left id, by omega, hs.2.2.2, hs.2.1⟩
   ·exact ⟨by omega, by omega, by omega, fun e => by have := ints_own_lt t.ints e; omega⟩
  have hp6 := hp2.alloc (.cells (hc T.h (.slice a2 T.l.length cap2)) 29)
  have ho6 := ho2.alloc (.cells (hc T.h (.slice a2 T.l.length cap2)) 29)
  have hv6 : OwnInts (w5.alloc (.cells (hc T.h (.slice a2 T.l.length cap2)) 29)) w1.heap.size (.slice al (nats M.done).length cl) (nats M.done) := t.ints.below hb6
  have hy6 := hkeep hb6 hy
  have hH6 := hkeep hb6 hHq
  have hR6 := hkeep hb6 hRq
  have hB6 := bstep hBq hBq.size hb6
  have hs6 : w5.heap.size < (w5.alloc (.cells (hc T.h (.slice a2 T.l.length cap2)) 29)).heap.size := by simp
  generalize w5.alloc (.cells (hc T.h (.slice a2 T.l.length cap2)) 29) = w6 at *
  generalize w5.heap.size = bz at *
  have hdM2 : (nats M.done).length ≤ 24 := by rw [nats_len]; exact hdM
  have hdT2 : (nats T.d).length ≤ 25 := by rw [nats_len]; omega
  have cY6 := cells_at hy6
  have htl := t.list
  have hto := fun k hk => t.ints.own (x := k) hk
  clear hb6 hb5 hx hy hp2 ho2 t
  replace hv6 := Lib.hid hv6
  replace ho6 := Lib.hid ho6
  replace hfb := Lib.hid hfb
  replace htl := Lib.hid htl
  replace hto := Lib.hid hto
  go_upto_region 64 with (first | go_skip | (at_builtin; refine wpList_append_ints rfl _ _ rfl w1.heap.size wq.heap.size (.slice al (nats M.done).length cl) v2 (nats M.done) (nats T.d) rfl rfl hv6.out ho6.out (by omega) (by omega) ?_; intro v3 w7 ho7 hgr7 hfr7; obtain ⟨a3, c3, rfl, _, _⟩ := ho7.at_; generalize (nats M.done ++ nats T.d).length = n3 at *; have hy7 := (hgr7.block (bx + 1) (hlt hy6) fun e => htl.out.2 e.symm).trans hy6; have fY := frozenAt hy7; have cY := cells_at hy7; have hset := hsetSame (i := 2) hy7 (.slice a3 n3 c3); replace hset := Lib.hid hset))
  have hZ7 := (hgr7.block bz (hlt hZ6) fun e => by have := ints_own_lt hv6.out e.symm; have := hto.out _ e.symm; exact absurd e.symm (by intro e'; obtain ⟨_, c', h'⟩ := owns_block' hv6.out.1 e'; rw [hZ6] at h'; injection Option.some.inj h' with _ ht _; exact absurd ht (by decide))).trans hZ6
  have hH7 := (hgr7.block _ (hlt hH6) fun e => by have := hto.out _ e.symm; omega).trans hH6
  have hR7 := (hgr7.block _ (hlt hR6) fun e => by have := hto.out _ e.symm; omega).trans hR6
  have hp7 := (only_grown hgr7).pays hp6 fun hl b off s e => (hfb.out hl b off s e).2.2.2
  have hB7 := hB6.grown hgr7 hB6.size fun k hk => by have := hto.out k hk; omega
  have hne3 : ∀ k, (Value.slice a3 n3 c3).ownBlock = some k → w1.heap.size ≤ k ∧ k ≠ bx + 1 ∧ ∀ (b off : Nat) (s : Option Nat), 0 < T.l.length → a2 = some ⟨b, off, s⟩ → k ≠ b := fun k hk => by
   rcases hfr7 k hk with h1 | h1
   ·exact ⟨hto.out k h1, fun e => htl.out.2 (e ▸ h1), fun b off s hl e e' => (hfb.out hl b off s e).2.2.2 (e' ▸ h1)⟩
   ·have hly := hlt hy6
    refine ⟨by omega, by omega, fun b off s hl e e' => ?_⟩
    obtain ⟨b', off', e2, hbl, _⟩ := hp6.row hl
    rw [e] at e2; cases e2; omega
  clear hgr7 hZ6 hH6 hR6 hp6 hB6 hy6 cY6 hv6 ho6 fY cY
  generalize hWs : World.setCell w7 _ _ = w8
  have hy8 : w8.heap[bx + 1]? = some (.cells (rc 0 M.n (.slice a3 n3 c3)) 44 (0, 0)) := by rw [← hWs]; exact hset.out
  have hZ8 : w8.heap[bz]? = some (.cells (hc T.h (.slice a2 T.l.length cap2)) 29 (0, 0)) := by rw [← hWs]; exact hsetOther hZ7 (by omega) _
  have hH8 : w8.heap[w.heap.size + 2]? = some (.cells (hc Hs.zero (.slice none 0 0)) 29 (0, 0)) := by rw [← hWs]; exact hsetOther hH7 (by omega) _
  have hR8 : w8.heap[w.heap.size + 3]? = some (.cells (rc 0 0 (.slice none 0 0)) 44 (0, 0)) := by rw [← hWs]; exact hsetOther hR7 (by omega) _
  have hp8 : PaysAt w8 a2 cap2 T.l := by rw [← hWs]; exact pay_set hp7 _ _ _ fun hl b off s e => (hfb.out hl b off s e).2.2.1
  have hB8 : Below w.heap.size w w8 := by rw [← hWs]; exact hB7.setCell (by show w.heap.size ≤ bx + 1; omega) _
  have ho8 : OwnInts w8 w.heap.size (.slice a3 n3 c3) (nats (M.done ++ T.d)) := by
   rw [nats_app, ← hWs]
   exact ⟨owns_only' (ho7.mono (by omega)).1 (only_set (bx + 1) 2 _ w7) fun x hx e => (hne3 x hx).2.1 e, ho7.2⟩
  replace ho8 := Lib.hid ho8
  replace hne3 := Lib.hid hne3
  clear hWs hset hZ7 hH7 hR7 hp7 hB7 hy7 ho7
  have hHd : w8.drew.heap[w.heap.size + 2]? = _ := hH8
  have hRd : w8.drew.heap[w.heap.size + 3]? = _ := hR8
  have hxd : w8.drew.heap[bz]? = some (.cells (hc T.h (.slice a2 T.l.length cap2)) 29 (0, 0)) := hZ8
  have hyd : w8.drew.heap[bx + 1]? = some (.cells (rc 0 M.n (.slice a3 n3 c3)) 44 (0, 0)) := hy8
  go_upto_region 64 with fail
  refine wpG_start (fun w' : World => w'.heap[bz]? = some (.cells (hc T.h (.slice a2 T.l.length cap2)) 29 (0, 0)) ∧ w'.heap[bx + 1]? = some (.cells (rc 0 M.n (.slice a3 n3 c3)) 44 (0, 0))) 3 (by kernel_rfl) ?_
  have hI0 : (fun w' : World => w'.heap[bz]? = some (.cells (hc T.h (.slice a2 T.l.length cap2)) 29 (0, 0)) ∧ w'.heap[bx + 1]? = some (.cells (rc 0 M.n (.slice a3 n3 c3)) 44 (0, 0))) w8.drew := ⟨hxd, hyd⟩
  refine wpG_put 347 (i := 0) (oi := _) (v := (.agg (hc T.h (.slice a2 T.l.length cap2)))) [0] rfl rfl (by kernel_rfl) (by kernel_rfl) (by kernel_rfl) (by kernel_rfl) (fun _ _ _ h => h) hI0 ?hy1 ?rs1
  case hy1 => exact yields_row 29 _ rfl rfl _ rfl _ _ _ _ (fun w' hb => hb.1) Try.underlying29 rfl info30
  (try simp only [Act.put, List.setIfInBounds_toArray, List.set_cons_succ, List.set_cons_zero])
  refine wpG_put 348 (i := 1) (oi := _) (v := (.agg (rc 0 M.n (.slice a3 n3 c3)))) [1] rfl rfl (by kernel_rfl) (by kernel_rfl) (by kernel_rfl) (by kernel_rfl) (fun _ _ _ h => h) hI0 ?hy2 ?rs2
  case hy2 => exact yields_row 44 _ rfl rfl _ rfl _ _ _ _ (fun w' hb => hb.2) Try.underlying44 rfl infoRp
  (try simp only [Act.put, List.setIfInBounds_toArray, List.set_cons_succ, List.set_cons_zero])
  clear hI0
  refine wpG_one (i := 2) (by kernel_rfl) rfl ?_
  go_wp2_with (first | go_skip | (refine st_row 29 _ _ rfl rfl _ rfl _ rfl _ _ hHd info30 rfl (hc_one _ _ rfl) ?_; intro wa hra hgra hsza))
  refine ⟨⟨(hgra.block _ (hlt hxd) (by simp; omega)).trans hxd, (hgra.block _ (hlt hyd) (by simp; omega)).trans hyd⟩, ?_⟩
  (try simp only [Act.put, List.setIfInBounds_toArray, List.set_cons_succ, List.set_cons_zero])
  refine wpG_drop 3 rfl (by kernel_rfl) ?_
  simp only [List.drop_succ_cons, List.drop_zero]
  go_wp2_with (first | go_skip | (refine st_row 44 _ _ rfl rfl _ rfl (rc 0 M.n (.slice a3 n3 c3)) rfl _ _ ((hgra.block _ (hlt hRd) (by simp)).trans hRd) infoRp rfl (rc_one _ _ _ rfl) ?_; intro wb hrb hgrb hszb))
  exact bodyPost_ret (results_hr rfl _ _ _ _ _ _ _ _ _ rfl rfl ((hgrb.block _ (hlt hra) (by simp)).trans hra) hrb) rfl (by rw [eX.out]; exact nexts_end (X := ⟨T.h, T.l, 0, M.n, M.done ++ T.d⟩) rfl hB8.drew hgra hgrb (hp8.below (Below.refl _ _).drew) (fun hl b off s e => by have hs := hfb.out hl b off s e; exact ⟨.inr (by omega), by omega, by omega, fun e' => (hne3.out b e').2.2 b off s hl e rfl⟩) (ho8.out.below (Below.refl _ _).drew) (fun k hk => by have h1 := (hne3.out k hk).1; omega))
 ·have eNL := nl_untie (d := ⟨8, a, b, c, n⟩) hgb.out rfl
  have htl : (untieS h l).l.length = l.length := (untie_ext h l).len
  have htd : (untieS h l).d.length ≤ l.length := ext_le (untie_ext h l)
  have cU := fun a cap w hp => untieHouse_anyS h l a cap w hp
  obtain ⟨T, hT⟩ : ∃ T, untieS h l = T := ⟨_, rfl⟩
  rw [hT] at htl cU eNL htd
  replace hT := Lib.hid hT
  replace htl := Lib.hid htl
  replace cU := Lib.hid cU
  replace eNL := Lib.hid eNL
  obtain ⟨_, _, ea, hpa, hpab⟩ := hown.out.at_
  simp only [Value.slice.injEq, true_and] at ea
  obtain ⟨rfl, rfl⟩ := ea
  clear cA
  go_upto_region 52 with (first | go_skip | (refine ld_row 29 _ rfl rfl _ rfl _ _ _ _ hX Try.underlying29 rfl info30 ?_) | (go_at_call 66; refine (cU.out a1 cap1 _ hpa).mono ?_; rintro e w5 ⟨⟨a2, cap2, v2, rfl, hp2, ho2, hs2⟩, hb5⟩; obtain ⟨al, cl, rfl, _, _⟩ := ho2.at_) | (refine st_row 29 _ _ rfl rfl _ rfl _ rfl _ _ (hkeep hb5 hX) info30 rfl (hc_one _ _ rfl) ?_; intro w6 hr6 hgr6 hsz6; have hY6 := (hgr6.block (bx + 1) (hlt (hkeep hb5 hY)) (by simp)).trans (hkeep hb5 hY); have fY := frozenAt hY6; have cY := cells_at hY6))
  have hs5 := hb5.size
  have hset := hsetSame (i := 2) hY6 (.slice al (nats T.d).length cl)
  have hset2 := hsetSame (i := 1) hset (.int .i64 ((nats T.d).length : Int))
  have c2 := cells_at hset
  have f2 := frozenAt hset
  have hdl : (nats T.d).length ≤ 24 := by rw [nats_len]; omega
  replace hset2 := Lib.hid hset2
  replace hset := Lib.hid hset
  clear fY cY
  go_upto_region 62 with fail
  clear c2 f2
  generalize hWs : World.setCell (World.setCell w6 _ _) _ _ = wq
  have hO6 : Only (fun b => b = bx ∨ b = bx + 1) w5 wq := by
   rw [← hWs]
   exact (((only_grown hgr6).mono fun b _ e => by cases e; exact .inl rfl).trans ((only_set (bx + 1) 2 _ w6).mono fun b _ e => .inr e)).trans ((only_set (bx + 1) 1 _ _).mono fun b _ e => .inr e)
  have hXq : wq.heap[bx]? = some (.cells (hc T.h (.slice a2 T.l.length cap2)) 29 (0, 0)) := by rw [← hWs]; exact hsetOther (hsetOther hr6 (by omega) _) (by omega) _
  have hYq : wq.heap[bx + 1]? = some (.cells (rc 0 ((nats T.d).length : Int) (.slice al (nats T.d).length cl)) 44 (0, 0)) := by rw [← hWs]; exact hset2.out
  have hHq : wq.heap[w.heap.size + 2]? = some (.cells (hc Hs.zero (.slice none 0 0)) 29 (0, 0)) := (hO6.block _ (hlt (hkeep hb5 hH)) (by omega)).trans (hkeep hb5 hH)
  have hRq : wq.heap[w.heap.size + 3]? = some (.cells (rc 0 0 (.slice none 0 0)) 44 (0, 0)) := (hO6.block _ (hlt (hkeep hb5 hR)) (by omega)).trans (hkeep hb5 hR)
  have hBq : Below w.heap.size w wq := ((only_new (av := fun b => w.heap.size ≤ b) (bstep hB hB.size hb5)).step hO6 fun b e => by left; omega).below (Nat.le_refl _) fun _ h => h
  have hLq : Below w1.heap.size w1 wq := ((only_new (av := fun b => w1.heap.size ≤ b) (bstep hL hL.size hb5)).step hO6 fun b e => by left; omega).below (Nat.le_refl _) fun _ h => h
  have hsr : 0 < T.l.length → ∀ b off s, a2 = some ⟨b, off, s⟩ → (False ∨ w1.heap.size ≤ b) ∧ (Value.slice al (nats T.d).length cl).ownBlock ≠ some b ∧ b ≠ bx ∧ b ≠ bx + 1 := fun hl b off s e => by
   have hyl := hlt hY
   rcases (hs2 hl b off s e).1 with ⟨off', s', e'⟩ | hge
   ·have h1 := hob.out b (by rw [e']; rfl)
    exact ⟨.inr (hpab b off' s' e'), (hs2 hl b off s e).2, by omega, by omega⟩
   ·exact ⟨.inr (by have := hL.size; omega), (hs2 hl b off s e).2, by omega, by omega⟩
  have hpq : PaysAt wq a2 cap2 T.l := hO6.pays hp2 fun hl b off s e => by have := hsr hl b off s e; omega
  have hlq : (Value.slice al (nats T.d).length cl).ownBlock ≠ some bx ∧ (Value.slice al (nats T.d).length cl).ownBlock ≠ some (bx + 1) := ⟨fun e => by have := ho2.own e; have := hlt hX; omega, fun e => by have := ho2.own e; have := hlt hY; omega⟩
  have hoq : OwnInts wq w1.heap.size (.slice al (nats T.d).length cl) (nats T.d) := (hO6.ints ho2 fun x hx e => e.elim (fun e => hlq.1 (e ▸ hx)) fun e => hlq.2 (e ▸ hx)).mono (by have := hL.size; omega)
  have eNL2 := eNL.out
  rw [← nats_len T.d] at eNL2
  replace eNL2 := Lib.hid eNL2
  clear hWs hO6 hset hset2 hr6 hgr6 hsz6 hY6 hb5 hp2 ho2
  have t : Two (fun _ => False) w1 wq bx (bx + 1) ⟨T.h, T.l, 0, ((nats T.d).length : Int), T.d⟩ a2 cap2 (Value.slice al (nats T.d).length cl) := ⟨hLq, hXq, hYq, by omega, by omega, by omega, hpq, hoq, hsr, hlq⟩
  have eN : nextL h l ⟨8, a, b, c, n⟩ = .swept (⟨T.h, T.l, 0, ((nats T.d).length : Int), T.d⟩ : Nx).h (⟨T.h, T.l, 0, ((nats T.d).length : Int), T.d⟩ : Nx).l (⟨T.h, T.l, 0, ((nats T.d).length : Int), T.d⟩ : Nx).n (⟨T.h, T.l, 0, ((nats T.d).length : Int), T.d⟩ : Nx).done := eNL2.out
  have hsm : (⟨T.h, T.l, 0, ((nats T.d).length : Int), T.d⟩ : Nx).done.length ≤ 24 ∧ (⟨T.h, T.l, 0, ((nats T.d).length : Int), T.d⟩ : Nx).l.length ≤ 25 ∧ (⟨T.h, T.l, 0, ((nats T.d).length : Int), T.d⟩ : Nx).code = 0 := ⟨by simp only; omega, by simp only [htl.out]; omega, rfl⟩
  obtain ⟨M, hM⟩ : ∃ M : Nx, ⟨T.h, T.l, 0, ((nats T.d).length : Int), T.d⟩ = M := ⟨_, rfl⟩
  rw [hM] at t eN hsm
  replace hM := Lib.hid hM
  obtain ⟨hdM, hlM, hcM⟩ := hsm
  obtain ⟨vr, hvr⟩ : ∃ vr : Value, (Value.slice al (nats T.d).length cl) = vr := ⟨_, rfl⟩
  rw [hvr] at t
  replace hvr := Lib.hid hvr
  obtain ⟨ax, hax⟩ : ∃ ax : Option Addr, a2 = ax := ⟨_, rfl⟩
  rw [hax] at t
  replace hax := Lib.hid hax
  obtain ⟨al, cl, rfl, _, hal⟩ := t.ints.at_
  have hx := t.hx
  have hy := t.hy
  rw [hcM] at hy
  have hsc := t.low.size
  have cS := fun w hp => sweepHouse_anyS M.h M.l ax cap2 w hp
  obtain ⟨T, hT⟩ : ∃ T, sweepG M.h M.l = T := ⟨_, rfl⟩
  rw [hT] at cS
  have eX : nextL h l ⟨8, a, b, c, n⟩ = ⟨T.h, T.l, 0, M.n, M.done ++ T.d⟩ := by rw [eN, ← hT]; rfl
  have hlT : T.l.length = M.l.length := by rw [← hT]; exact (sweep_ext M.h M.l).len
  have hdT : T.d.length ≤ M.l.length := by rw [← hT]; exact ext_le (sweep_ext M.h M.l)
  clear eN
  replace hcM := Lib.hid hcM
  replace eX := Lib.hid eX
  replace cS := Lib.hid cS
  replace hT := Lib.hid hT
  replace hal := Lib.hid hal
  replace hlT := Lib.hid hlT
  clear hXq hYq hLq
  go_upto_region 63 with (first | go_skip | (refine ld_row 29 _ rfl rfl _ rfl _ _ _ _ hx Try.underlying29 rfl info30 ?_) | (go_at_call 67; refine (cS.out _ t.pays).mono ?_; rintro e w5 ⟨⟨a2, cap2, v2, rfl, hp2, ho2, hfa, hap⟩, hb5⟩) | (refine st_new 29 _ _ rfl _ 29 _ rfl rfl rfl (hc T.h (.slice a2 T.l.length cap2)) rfl info30 rfl (hc_one _ _ rfl) ?_))
  have hZ6 := hnew w5 (.cells (hc T.h (.slice a2 T.l.length cap2)) 29)
  have hb6 := hb5.alloc hb5.size (.cells (hc T.h (.slice a2 T.l.length cap2)) 29)
  have hs5 := hb5.size
  have hxl := hlt hx
  have hyl := hlt hy
  have hfb : 0 < T.l.length → ∀ b off s, a2 = some ⟨b, off, s⟩ → (w1.heap.size ≤ b ∧ b ≠ w5.heap.size ∧ b ≠ bx + 1 ∧ (Value.slice al (nats M.done).length cl).ownBlock ≠ some b) := fun hl b off s e => by
   have hbl : b < w5.heap.size := by
    obtain ⟨b', off', e', hbl, _⟩ := hp2.row hl
    rw [e] at e'; cases e'; exact hbl
   rcases hfa b off s e with ⟨off', s', e'⟩ | hge
   ·have hs := t.src (by rw [← hlT.out]; exact hl) b off' s' e'
    exact ⟨hs.1.resolve_left id, by omega, hs.2.2.2, hs.2.1⟩
   ·exact ⟨by omega, by omega, by omega, fun e => by have := ints_own_lt t.ints e; omega⟩
  have hp6 := hp2.alloc (.cells (hc T.h (.slice a2 T.l.length cap2)) 29)
  have ho6 := ho2.alloc (.cells (hc T.h (.slice a2 T.l.length cap2)) 29)
  have hv6 : OwnInts (w5.alloc (.cells (hc T.h (.slice a2 T.l.length cap2)) 29)) w1.heap.size (.slice al (nats M.done).length cl) (nats M.done) := t.ints.below hb6
  have hy6 := hkeep hb6 hy
  have hH6 := hkeep hb6 hHq
  have hR6 := hkeep hb6 hRq
  have hB6 := bstep hBq hBq.size hb6
  have hs6 : w5.heap.size < (w5.alloc (.cells (hc T.h (.slice a2 T.l.length cap2)) 29)).heap.size := by simp
  generalize w5.alloc (.cells (hc T.h (.slice a2 T.l.length cap2)) 29) = w6 at *
  generalize w5.heap.size = bz at *
  have hdM2 : (nats M.done).length ≤ 24 := by rw [nats_len]; exact hdM
  have hdT2 : (nats T.d).length ≤ 25 := by rw [nats_len]; omega
  have cY6 := cells_at hy6
  have htl := t.list
  have hto := fun k hk => t.ints.own (x := k) hk
  clear hb6 hb5 hx hy hp2 ho2 t
  replace hv6 := Lib.hid hv6
  replace ho6 := Lib.hid ho6
  replace hfb := Lib.hid hfb
  replace htl := Lib.hid htl
  replace hto := Lib.hid hto
  go_upto_region 64 with (first | go_skip | (at_builtin; refine wpList_append_ints rfl _ _ rfl w1.heap.size wq.heap.size (.slice al (nats M.done).length cl) v2 (nats M.done) (nats T.d) rfl rfl hv6.out ho6.out (by omega) (by omega) ?_; intro v3 w7 ho7 hgr7 hfr7; obtain ⟨a3, c3, rfl, _, _⟩ := ho7.at_; generalize (nats M.done ++ nats T.d).length = n3 at *; have hy7 := (hgr7.block (bx + 1) (hlt hy6) fun e => htl.out.2 e.symm).trans hy6; have fY := frozenAt hy7; have cY := cells_at hy7; have hset := hsetSame (i := 2) hy7 (.slice a3 n3 c3); replace hset := Lib.hid hset))
  have hZ7 := (hgr7.block bz (hlt hZ6) fun e => by have := ints_own_lt hv6.out e.symm; have := hto.out _ e.symm; exact absurd e.symm (by intro e'; obtain ⟨_, c', h'⟩ := owns_block' hv6.out.1 e'; rw [hZ6] at h'; injection Option.some.inj h' with _ ht _; exact absurd ht (by decide))).trans hZ6
  have hH7 := (hgr7.block _ (hlt hH6) fun e => by have := hto.out _ e.symm; omega).trans hH6
  have hR7 := (hgr7.block _ (hlt hR6) fun e => by have := hto.out _ e.symm; omega).trans hR6
  have hp7 := (only_grown hgr7).pays hp6 fun hl b off s e => (hfb.out hl b off s e).2.2.2
  have hB7 := hB6.grown hgr7 hB6.size fun k hk => by have := hto.out k hk; omega
  have hne3 : ∀ k, (Value.slice a3 n3 c3).ownBlock = some k → w1.heap.size ≤ k ∧ k ≠ bx + 1 ∧ ∀ (b off : Nat) (s : Option Nat), 0 < T.l.length → a2 = some ⟨b, off, s⟩ → k ≠ b := fun k hk => by
   rcases hfr7 k hk with h1 | h1
   ·exact ⟨hto.out k h1, fun e => htl.out.2 (e ▸ h1), fun b off s hl e e' => (hfb.out hl b off s e).2.2.2 (e' ▸ h1)⟩
   ·have hly := hlt hy6
    refine ⟨by omega, by omega, fun b off s hl e e' => ?_⟩
    obtain ⟨b', off', e2, hbl, _⟩ := hp6.row hl
    rw [e] at e2; cases e2; omega
  clear hgr7 hZ6 hH6 hR6 hp6 hB6 hy6 cY6 hv6 ho6 fY cY
  generalize hWs : World.setCell w7 _ _ = w8
  have hy8 : w8.heap[bx + 1]? = some (.cells (rc 0 M.n (.slice a3 n3 c3)) 44 (0, 0)) := by rw [← hWs]; exact hset.out
  have hZ8 : w8.heap[bz]? = some (.cells (hc T.h (.slice a2 T.l.length cap2)) 29 (0, 0)) := by rw [← hWs]; exact hsetOther hZ7 (by omega) _
  have hH8 : w8.heap[w.heap.size + 2]? = some (.cells (hc Hs.zero (.slice none 0 0)) 29 (0, 0)) := by rw [← hWs]; exact hsetOther hH7 (by omega) _
  have hR8 : w8.heap[w.heap.size + 3]? = some (.cells (rc 0 0 (.slice none 0 0)) 44 (0, 0)) := by rw [← hWs]; exact hsetOther hR7 (by omega) _
  have hp8 : PaysAt w8 a2 cap2 T.l := by rw [← hWs]; exact pay_set hp7 _ _ _ fun hl b off s e => (hfb.out hl b off s e).2.2.1
  have hB8 : Below w.heap.size w w8 := by rw [← hWs]; exact hB7.setCell (by show w.heap.size ≤ bx + 1; omega) _
  have ho8 : OwnInts w8 w.heap.size (.slice a3 n3 c3) (nats (M.done ++ T.d)) := by
   rw [nats_app, ← hWs]
   exact ⟨owns_only' (ho7.mono (by omega)).1 (only_set (bx + 1) 2 _ w7) fun x hx e => (hne3 x hx).2.1 e, ho7.2⟩
  replace ho8 := Lib.hid ho8
  replace hne3 := Lib.hid hne3
  clear hWs hset hZ7 hH7 hR7 hp7 hB7 hy7 ho7
  have hHd : w8.drew.heap[w.heap.size + 2]? = _ := hH8
  have hRd : w8.drew.heap[w.heap.size + 3]? = _ := hR8
  have hxd : w8.drew.heap[bz]? = some (.cells (hc T.h (.slice a2 T.l.length cap2)) 29 (0, 0)) := hZ8
  have hyd : w8.drew.heap[bx + 1]? = some (.cells (rc 0 M.n (.slice a3 n3 c3)) 44 (0, 0)) := hy8
  go_upto_region 64 with fail
  refine wpG_start (fun w' : World => w'.heap[bz]? = some (.cells (hc T.h (.slice a2 T.l.length cap2)) 29 (0, 0)) ∧ w'.heap[bx + 1]? = some (.cells (rc 0 M.n (.slice a3 n3 c3)) 44 (0, 0))) 3 (by kernel_rfl) ?_
  have hI0 : (fun w' : World => w'.heap[bz]? = some (.cells (hc T.h (.slice a2 T.l.length cap2)) 29 (0, 0)) ∧ w'.heap[bx + 1]? = some (.cells (rc 0 M.n (.slice a3 n3 c3)) 44 (0, 0))) w8.drew := ⟨hxd, hyd⟩
  refine wpG_put 347 (i := 0) (oi := _) (v := (.agg (hc T.h (.slice a2 T.l.length cap2)))) [0] rfl rfl (by kernel_rfl) (by kernel_rfl) (by kernel_rfl) (by kernel_rfl) (fun _ _ _ h => h) hI0 ?hy3 ?rs3
  case hy3 => exact yields_row 29 _ rfl rfl _ rfl _ _ _ _ (fun w' hb => hb.1) Try.underlying29 rfl info30
  (try simp only [Act.put, List.setIfInBounds_toArray, List.set_cons_succ, List.set_cons_zero])
  refine wpG_put 348 (i := 1) (oi := _) (v := (.agg (rc 0 M.n (.slice a3 n3 c3)))) [1] rfl rfl (by kernel_rfl) (by kernel_rfl) (by kernel_rfl) (by kernel_rfl) (fun _ _ _ h => h) hI0 ?hy4 ?rs4
  case hy4 => exact yields_row 44 _ rfl rfl _ rfl _ _ _ _ (fun w' hb => hb.2) Try.underlying44 rfl infoRp
  (try simp only [Act.put, List.setIfInBounds_toArray, List.set_cons_succ, List.set_cons_zero])
  clear hI0
  refine wpG_one (i := 2) (by kernel_rfl) rfl ?_
  go_wp2_with (first | go_skip | (refine st_row 29 _ _ rfl rfl _ rfl _ rfl _ _ hHd info30 rfl (hc_one _ _ rfl) ?_; intro wa hra hgra hsza))
  refine ⟨⟨(hgra.block _ (hlt hxd) (by simp; omega)).trans hxd, (hgra.block _ (hlt hyd) (by simp; omega)).trans hyd⟩, ?_⟩
  (try simp only [Act.put, List.setIfInBounds_toArray, List.set_cons_succ, List.set_cons_zero])
  refine wpG_drop 3 rfl (by kernel_rfl) ?_
  simp only [List.drop_succ_cons, List.drop_zero]
  go_wp2_with (first | go_skip | (refine st_row 44 _ _ rfl rfl _ rfl (rc 0 M.n (.slice a3 n3 c3)) rfl _ _ ((hgra.block _ (hlt hRd) (by simp)).trans hRd) infoRp rfl (rc_one _ _ _ rfl) ?_; intro wb hrb hgrb hszb))
  exact bodyPost_ret (results_hr rfl _ _ _ _ _ _ _ _ _ rfl rfl ((hgrb.block _ (hlt hra) (by simp)).trans hra) hrb) rfl (by rw [eX.out]; exact nexts_end (X := ⟨T.h, T.l, 0, M.n, M.done ++ T.d⟩) rfl hB8.drew hgra hgrb (hp8.below (Below.refl _ _).drew) (fun hl b off s e => by have hs := hfb.out hl b off s e; exact ⟨.inr (by omega), by omega, by omega, fun e' => (hne3.out b e').2.2 b off s hl e rfl⟩) (ho8.out.below (Below.refl _ _).drew) (fun k hk => by have h1 := (hne3.out k hk).1; omega))
 ·obtain ⟨_, _, ea, hpa, hpab⟩ := hown.out.at_
  simp only [Value.slice.injEq, true_and] at ea
  obtain ⟨rfl, rfl⟩ := ea
  have hcl := hpa.le
  have hcm := hpa.capm
  have hn0 := hpa.nil0
  have hR0 : (0 < l.length → ∃ g cur, a1 = some ⟨g, 0, none⟩ ∧ w1.heap.size ≤ g ∧ g < bx ∧ w4.heap[g]? = some (.cells cur 70 (0, 0)) ∧ cur.size = cap1 * 6 ∧ ∀ j p, (shutTo l 0)[j]? = some p → ∀ f v, (pc p)[f]? = some v → cur[j * 6 + f]? = some v) := fun hl => by
   obtain ⟨g, cap, cur, e, h1, h2, h3, h4, h5, h6⟩ := hown.out.row hl
   simp only [Value.slice.injEq, true_and] at e
   obtain ⟨rfl, rfl⟩ := e
   exact ⟨g, cur, rfl, h1, hob.out g rfl, h2, h5, by rw [shutTo_zero]; exact h6⟩
  replace hR0 := Lib.hid hR0
  replace hn0 := Lib.hid hn0
  clear cA
  have cX := cells_at hX
  go_wp2_with fail
  clear cX cD
  go_loopg [315] l.length (fun g s315 wx => ∃ k : Nat, k ≤ l.length ∧ g = l.length - k ∧ s315 = .int .i64 k ∧ wx.heap[bx]? = some (.cells (hc h (.slice a1 l.length cap1)) 29 (0, 0)) ∧ wx.heap[bx + 1]? = some (.cells (rc 0 ((waiting (l.take k) : Nat) : Int) (.slice none 0 0)) 44 (0, 0)) ∧ Only (fun b => w1.heap.size ≤ b) w4 wx ∧ (0 < l.length → ∃ g cur, a1 = some ⟨g, 0, none⟩ ∧ w1.heap.size ≤ g ∧ g < bx ∧ wx.heap[g]? = some (.cells cur 70 (0, 0)) ∧ cur.size = cap1 * 6 ∧ ∀ j p, (shutTo l k)[j]? = some p → ∀ f v, (pc p)[f]? = some v → cur[j * 6 + f]? = some v))
  case atStart => exact ⟨0, by omega, rfl, rfl, hX, hY, Only.refl _ _, hR0.out⟩
  case round =>
   clear hX hY hR0
   obtain ⟨k, hk, rfl, rfl, hX, hY, hOr, hrw⟩ := hrel
   by_cases h6 : k < l.length
   ·have hk2 : (k : Int) < (l.length : Int) := by omega
    have h6d : decide ((k : Int) < (l.length : Int)) = true := decide_eq_true hk2
    obtain ⟨gg, cur, rfl, hbg, hgl, hgg, hcs, hcur⟩ := hrw (by omega)
    have hwt := waiting_take h6
    have hwl := waiting_le (l.take k)
    rw [List.length_take] at hwl
    have hsa := shutTo_at h6
    have hcg : k * 6 + 4 < cur.size := by omega
    have hx4 : cur[k * 6 + 4]? = some (.int .i64 (payAt l k).st) := hcur k (payAt l k) (by rw [← hsa]; exact payAt_get (by rw [shutTo_len]; exact h6)) 4 _ (pc_4 _)
    have fG := frozenAt hgg
    have cG : wr.cell? ⟨gg, k * 6 + 4, none⟩ = some (.int .i64 (payAt l k).st) := (cells_at hgg _).trans hx4
    have cX := cells_at hX
    by_cases hs : (payAt l k).st = 1
    ·have hstep := shutTo_yes h6 hs
     rw [if_pos hs] at hwt
     rw [hs] at cG
     have hset := hsetSame (i := k * 6 + 4) hgg (.int .i64 3)
     have hcur2 := row_set (f := 4) (q := (payAt l k).gone) (u := .int .i64 3) hcur (by rw [shutTo_len]; exact h6) (by omega) (by rw [hsa]; exact gone_pc)
     rw [← hstep] at hcur2
     have hY5 := hsetOther (i := k * 6 + 4) hY (by omega : bx + 1 ≠ gg) (.int .i64 3)
     have fY := frozenAt hY5
     have cY := cells_at hY5
     have hsetY := hsetSame (i := 1) hY5 (.int .i64 ((waiting (l.take (k + 1)) : Nat) : Int))
     rw [hwt] at hsetY
     replace hs := Lib.hid hs
     replace hwt := Lib.hid hwt
     replace hsa := Lib.hid hsa
     replace hset := Lib.hid hset
     replace hsetY := Lib.hid hsetY
     replace hY5 := Lib.hid hY5
     replace hstep := Lib.hid hstep
     replace hcur2 := Lib.hid hcur2
     replace hcur := Lib.hid hcur
     replace hrw := Lib.hid hrw
     replace hx4 := Lib.hid hx4
     go_wp2_with fail
     go_roundg (l.length - (k + 1))
     case measure => omega
     case rel => exact ⟨k + 1, by omega, rfl, by go_num, hsetOther (hsetOther hX (by omega) _) (by omega) _, by rw [hwt.out]; exact hsetY.out, (hOr.trans ((only_set gg _ _ _).mono fun b _ e => by rw [e]; exact hbg)).trans ((only_set (bx + 1) _ _ _).mono fun b _ e => by rw [e]; omega), fun _ => ⟨gg, _, rfl, hbg, hgl, hsetOther hset.out (by omega) _, by simpa using hcs, hcur2.out⟩⟩
    ·have hstep := shutTo_no h6 hs
     rw [if_neg hs] at hwt
     obtain ⟨st, hst⟩ : ∃ st, (payAt l k).st = st := ⟨_, rfl⟩
     rw [hst] at cG hs
     have hs1 : (st == 1) = false := by rw [beq_eq_false_iff_ne]; exact hs
     replace hst := Lib.hid hst
     replace hwt := Lib.hid hwt
     replace hsa := Lib.hid hsa
     replace hstep := Lib.hid hstep
     replace hcur := Lib.hid hcur
     replace hrw := Lib.hid hrw
     replace hx4 := Lib.hid hx4
     go_wp2_with fail
     go_roundg (l.length - (k + 1))
     case measure => omega
     case rel => exact ⟨k + 1, by omega, rfl, by go_num, hX, by rw [hwt.out]; exact hY, hOr, fun _ => ⟨gg, cur, rfl, hbg, hgl, hgg, hcs, by rw [hstep.out]; exact hcur.out⟩⟩
   ·obtain rfl : k = l.length := by omega
    rw [List.take_length] at hY
    rw [shutTo_end] at hrw
    have hp2 : PaysAt wr a1 cap1 (l.map Pay.shut) := by
     by_cases hl : 0 < l.length
     ·obtain ⟨gg, cur, rfl, hbg, hgl, hgg, hcs, hcur⟩ := hrw hl
      exact PaysAt.of_row hgg (by simpa using hcl) hcm (by simp; omega) hcur
     ·exact ⟨by simpa using hcl, hcm, by simp; omega, hn0.out, fun h => by simp at h; omega⟩
    have hHq := (hOr.block _ (hlt hH) (by omega)).trans hH
    have hRq := (hOr.block _ (hlt hR) (by omega)).trans hR
    have hBq : Below w.heap.size w wr := ((only_new (av := fun b => w.heap.size ≤ b) hB).step hOr fun b e => by left; omega).below (Nat.le_refl _) fun _ h => h
    have eX : nextL h l ⟨9, a, b, c, n⟩ = ⟨h, l.map Pay.shut, 0, ((waiting l : Nat) : Int), []⟩ := shut_code hgb.out rfl
    have hml : (l.map Pay.shut).length = l.length := List.length_map _
    replace eX := Lib.hid eX
    replace hml := Lib.hid hml
    clear hk hrw hOr
    have hHd : wr.drew.heap[w.heap.size + 2]? = _ := hHq
    have hRd : wr.drew.heap[w.heap.size + 3]? = _ := hRq
    have hxd : wr.drew.heap[bx]? = some (.cells (hc h (.slice a1 l.length cap1)) 29 (0, 0)) := hX
    have hyd : wr.drew.heap[bx + 1]? = some (.cells (rc 0 ((waiting l : Nat) : Int) (.slice none 0 0)) 44 (0, 0)) := hY
    go_upto_region 61 with fail
    refine wpG_start (fun w' : World => w'.heap[bx]? = some (.cells (hc h (.slice a1 l.length cap1)) 29 (0, 0)) ∧ w'.heap[bx + 1]? = some (.cells (rc 0 ((waiting l : Nat) : Int) (.slice none 0 0)) 44 (0, 0))) 3 (by kernel_rfl) ?_
    have hI0 : (fun w' : World => w'.heap[bx]? = some (.cells (hc h (.slice a1 l.length cap1)) 29 (0, 0)) ∧ w'.heap[bx + 1]? = some (.cells (rc 0 ((waiting l : Nat) : Int) (.slice none 0 0)) 44 (0, 0))) wr.drew := ⟨hxd, hyd⟩
    refine wpG_put 335 (i := 0) (oi := _) (v := (.agg (hc h (.slice a1 l.length cap1)))) [0] rfl rfl (by kernel_rfl) (by kernel_rfl) (by kernel_rfl) (by kernel_rfl) (fun _ _ _ h => h) hI0 ?hy5 ?rs5
    case hy5 => exact yields_row 29 _ rfl rfl _ rfl _ _ _ _ (fun w' hb => hb.1) Try.underlying29 rfl info30
    (try simp only [Act.put, List.setIfInBounds_toArray, List.set_cons_succ, List.set_cons_zero])
    refine wpG_put 336 (i := 1) (oi := _) (v := (.agg (rc 0 ((waiting l : Nat) : Int) (.slice none 0 0)))) [1] rfl rfl (by kernel_rfl) (by kernel_rfl) (by kernel_rfl) (by kernel_rfl) (fun _ _ _ h => h) hI0 ?hy6 ?rs6
    case hy6 => exact yields_row 44 _ rfl rfl _ rfl _ _ _ _ (fun w' hb => hb.2) Try.underlying44 rfl infoRp
    (try simp only [Act.put, List.setIfInBounds_toArray, List.set_cons_succ, List.set_cons_zero])
    clear hI0
    refine wpG_one (i := 2) (by kernel_rfl) rfl ?_
    go_wp2_with (first | go_skip | (refine st_row 29 _ _ rfl rfl _ rfl _ rfl _ _ hHd info30 rfl (hc_one _ _ rfl) ?_; intro wa hra hgra hsza))
    refine ⟨⟨(hgra.block _ (hlt hxd) (by simp; omega)).trans hxd, (hgra.block _ (hlt hyd) (by simp; omega)).trans hyd⟩, ?_⟩
    (try simp only [Act.put, List.setIfInBounds_toArray, List.set_cons_succ, List.set_cons_zero])
    refine wpG_drop 3 rfl (by kernel_rfl) ?_
    simp only [List.drop_succ_cons, List.drop_zero]
    go_wp2_with (first | go_skip | (refine st_row 44 _ _ rfl rfl _ rfl (rc 0 ((waiting l : Nat) : Int) (.slice none 0 0)) rfl _ _ ((hgra.block _ (hlt hRd) (by simp)).trans hRd) infoRp rfl (rc_one _ _ _ rfl) ?_; intro wb hrb hgrb hszb))
    exact bodyPost_ret (results_hr rfl _ _ _ _ _ _ _ _ _ rfl rfl ((hgrb.block _ (hlt hra) (by simp)).trans hra) hrb) rfl (by rw [eX.out]; exact nexts_end (X := ⟨h, l.map Pay.shut, 0, ((waiting l : Nat) : Int), []⟩) (by simp only [hml.out]) hBq.drew hgra hgrb (hp2.below (Below.refl _ _).drew) (fun hl b off s e => by have h1 := hpab b off s e; exact ⟨.inr (by omega), by omega, by omega, by simp [Value.ownBlock]⟩) (OwnInts.nil _ _) (fun x hx => by simp [Value.ownBlock] at hx))
 ·by_cases e1 : waitsAt l a = false
  ·have eN : nextL h l ⟨2, a, b, c, n⟩ = .err h l 4 := nl_rev1 hgb.out rfl e1
   replace eN := Lib.hid eN
   go_wp2_with (first | go_skip | (go_at_call 63; refine (refNo_any h _ rfl 4 w.heap.size _ hA).mono ?_; rintro e wn ⟨rfl, hbn⟩) | (refine st_row 29 _ _ rfl rfl _ rfl _ rfl _ _ (hkeep hbn hH) info30 rfl (hc_one _ _ rfl) ?_; intro wa hra hgra hsza) | (refine st_row 44 _ _ rfl rfl _ rfl (rc 4 0 (.slice none 0 0)) rfl _ _ ((hgra.block _ (hlt (hkeep hbn hR)) (by simp)).trans (hkeep hbn hR)) infoRp rfl (rc_one _ _ _ rfl) ?_; intro wb hrb hgrb hszb))
   exact bodyPost_ret (results_hr rfl _ _ _ _ _ _ _ _ _ rfl rfl ((hgrb.block _ (hlt hra) (by simp)).trans hra) hrb) rfl (by rw [eN.out]; exact nexts_end (X := .err h l 4) rfl (bstep hB hB.size hbn) hgra hgrb (hp0.below hbn) (fun hl b off s e => ⟨.inl ⟨rfl, by simp [Nx.err]⟩, by have := hpl.out hl b off s e; omega, by have := hpl.out hl b off s e; omega, by simp [Value.ownBlock]⟩) (OwnInts.nil _ _) (fun x hx => by simp [Value.ownBlock] at hx))
  have e1 : waitsAt l a = true := by simpa using e1
  have eNL := nl_rev (d := ⟨2, a, b, c, n⟩) hgb.out rfl e1
  obtain ⟨hi0, hst, hap⟩ := waitsAt_true e1
  obtain ⟨i, rfl⟩ : ∃ i : Nat, a = i := ⟨a.toNat, by omega⟩
  simp only [Int.toNat_natCast] at hi0 hst eNL
  obtain ⟨gg, cap, cur, ee, hbg, hgg, hlc, hcm, hcs, hcur⟩ := hown.out.row (by omega)
  simp only [Value.slice.injEq, true_and] at ee
  obtain ⟨rfl, rfl⟩ := ee
  have hgl : gg < bx := hob.out gg rfl
  have hpi := payAt_get hi0
  have hii : (i : Int) < (l.length : Int) := by omega
  have hml : (l.length : Int) ≤ 9223372036854775807 := by omega
  have cG : w4.cell? ⟨gg, i * 6 + 4, none⟩ = some (.int .i64 (payAt l i).st) := (cells_at hgg _).trans (hcur i _ hpi 4 _ (pc_4 _))
  have fG := frozenAt hgg
  have cX := cells_at hX
  have hset := Lib.hid (hsetSame (i := i * 6 + 4) hgg (.int .i64 3))
  replace hcur := Lib.hid hcur
  replace hpi := Lib.hid hpi
  replace hst := Lib.hid hst
  replace eNL := Lib.hid eNL
  go_upto_region 62 with fail
  clear cX fG cG cA cD
  generalize hWs : World.setCell w4 _ _ = wq
  have hOq : Only (fun b => b = gg) w4 wq := by rw [← hWs]; exact only_set gg _ _ _
  have hXq : wq.heap[bx]? = some (.cells (hc h (.slice (some ⟨gg, 0, none⟩) (l.set i (payAt l i).gone).length cap1)) 29 (0, 0)) := by rw [List.length_set, ← hWs]; exact hsetOther hX (by omega) _
  have hpq : PaysAt wq (some ⟨gg, 0, none⟩) cap1 (l.set i (payAt l i).gone) := PaysAt.of_row (by rw [← hWs]; exact hset.out) (by rw [List.length_set]; exact hlc) hcm (by rw [List.length_set]; omega) (row_set hcur.out hi0 (by omega) gone_pc)
  have hYq : wq.heap[bx + 1]? = some (.cells (rc 0 0 (.slice none 0 0)) 44 (0, 0)) := (hOq.block _ (hlt hY) (by omega)).trans hY
  have hHq : wq.heap[w.heap.size + 2]? = some (.cells (hc Hs.zero (.slice none 0 0)) 29 (0, 0)) := (hOq.block _ (hlt hH) (by omega)).trans hH
  have hRq : wq.heap[w.heap.size + 3]? = some (.cells (rc 0 0 (.slice none 0 0)) 44 (0, 0)) := (hOq.block _ (hlt hR) (by omega)).trans hR
  have hBq : Below w.heap.size w wq := ((only_new (av := fun b => w.heap.size ≤ b) hB).step hOq fun b e => by left; omega).below (Nat.le_refl _) fun _ h => h
  have hLq : Below w1.heap.size w1 wq := ((only_new (av := fun b => w1.heap.size ≤ b) hL).step hOq fun b e => by left; omega).below (Nat.le_refl _) fun _ h => h
  have hsq : ∀ {L : List Pay}, 0 < L.length → ∀ b off s, (some (⟨gg, 0, none⟩ : Addr)) = some ⟨b, off, s⟩ → (False ∨ w1.heap.size ≤ b) ∧ (Value.slice none 0 0).ownBlock ≠ some b ∧ b ≠ bx ∧ b ≠ bx + 1 := fun _ b off s e => by cases e; exact ⟨.inr hbg, by simp [Value.ownBlock], by omega, by omega⟩
  clear hWs hOq hset
  have t : Two (fun _ => False) w1 wq bx (bx + 1) ⟨h, l.set i (payAt l i).gone, 0, 0, []⟩ (some ⟨gg, 0, none⟩ : Option Addr) cap1 (Value.slice none 0 0) := ⟨hLq, hXq, hYq, by omega, by omega, by omega, hpq, OwnInts.nil _ _, hsq, ⟨by simp [Value.ownBlock], by simp [Value.ownBlock]⟩⟩
  have eN : nextL h l ⟨2, (i : Int), b, c, n⟩ = .swept (⟨h, l.set i (payAt l i).gone, 0, 0, []⟩ : Nx).h (⟨h, l.set i (payAt l i).gone, 0, 0, []⟩ : Nx).l (⟨h, l.set i (payAt l i).gone, 0, 0, []⟩ : Nx).n (⟨h, l.set i (payAt l i).gone, 0, 0, []⟩ : Nx).done := eNL.out
  have hsm : (⟨h, l.set i (payAt l i).gone, 0, 0, []⟩ : Nx).done.length ≤ 24 ∧ (⟨h, l.set i (payAt l i).gone, 0, 0, []⟩ : Nx).l.length ≤ 25 ∧ (⟨h, l.set i (payAt l i).gone, 0, 0, []⟩ : Nx).code = 0 := ⟨by simp, by rw [List.length_set]; omega, rfl⟩
  obtain ⟨M, hM⟩ : ∃ M : Nx, ⟨h, l.set i (payAt l i).gone, 0, 0, []⟩ = M := ⟨_, rfl⟩
  rw [hM] at t eN hsm
  replace hM := Lib.hid hM
  obtain ⟨hdM, hlM, hcM⟩ := hsm
  obtain ⟨vr, hvr⟩ : ∃ vr : Value, (Value.slice none 0 0) = vr := ⟨_, rfl⟩
  rw [hvr] at t
  replace hvr := Lib.hid hvr
  obtain ⟨ax, hax⟩ : ∃ ax : Option Addr, (some ⟨gg, 0, none⟩ : Option Addr) = ax := ⟨_, rfl⟩
  rw [hax] at t
  replace hax := Lib.hid hax
  obtain ⟨al, cl, rfl, _, hal⟩ := t.ints.at_
  have hx := t.hx
  have hy := t.hy
  rw [hcM] at hy
  have hsc := t.low.size
  have cS := fun w hp => sweepHouse_anyS M.h M.l ax cap1 w hp
  obtain ⟨T, hT⟩ : ∃ T, sweepG M.h M.l = T := ⟨_, rfl⟩
  rw [hT] at cS
  have eX : nextL h l ⟨2, (i : Int), b, c, n⟩ = ⟨T.h, T.l, 0, M.n, M.done ++ T.d⟩ := by rw [eN, ← hT]; rfl
  have hlT : T.l.length = M.l.length := by rw [← hT]; exact (sweep_ext M.h M.l).len
  have hdT : T.d.length ≤ M.l.length := by rw [← hT]; exact ext_le (sweep_ext M.h M.l)
  clear eN
  replace hcM := Lib.hid hcM
  replace eX := Lib.hid eX
  replace cS := Lib.hid cS
  replace hT := Lib.hid hT
  replace hal := Lib.hid hal
  replace hlT := Lib.hid hlT
  clear hXq hYq hLq
  go_upto_region 63 with (first | go_skip | (refine ld_row 29 _ rfl rfl _ rfl _ _ _ _ hx Try.underlying29 rfl info30 ?_) | (go_at_call 67; refine (cS.out _ t.pays).mono ?_; rintro e w5 ⟨⟨a2, cap2, v2, rfl, hp2, ho2, hfa, hap⟩, hb5⟩) | (refine st_new 29 _ _ rfl _ 29 _ rfl rfl rfl (hc T.h (.slice a2 T.l.length cap2)) rfl info30 rfl (hc_one _ _ rfl) ?_))
  have hZ6 := hnew w5 (.cells (hc T.h (.slice a2 T.l.length cap2)) 29)
  have hb6 := hb5.alloc hb5.size (.cells (hc T.h (.slice a2 T.l.length cap2)) 29)
  have hs5 := hb5.size
  have hxl := hlt hx
  have hyl := hlt hy
  have hfb : 0 < T.l.length → ∀ b off s, a2 = some ⟨b, off, s⟩ → (w1.heap.size ≤ b ∧ b ≠ w5.heap.size ∧ b ≠ bx + 1 ∧ (Value.slice al (nats M.done).length cl).ownBlock ≠ some b) := fun hl b off s e => by
   have hbl : b < w5.heap.size := by
    obtain ⟨b', off', e', hbl, _⟩ := hp2.row hl
    rw [e] at e'; cases e'; exact hbl
   rcases hfa b off s e with ⟨off', s', e'⟩ | hge
   ·have hs := t.src (by rw [← hlT.out]; exact hl) b off' s' e'
    exact ⟨hs.1.resolve_left id, by omega, hs.2.2.2, hs.2.1⟩
   ·exact ⟨by omega, by omega, by omega, fun e => by have := ints_own_lt t.ints e; omega⟩
  have hp6 := hp2.alloc (.cells (hc T.h (.slice a2 T.l.length cap2)) 29)
  have ho6 := ho2.alloc (.cells (hc T.h (.slice a2 T.l.length cap2)) 29)
  have hv6 : OwnInts (w5.alloc (.cells (hc T.h (.slice a2 T.l.length cap2)) 29)) w1.heap.size (.slice al (nats M.done).length cl) (nats M.done) := t.ints.below hb6
  have hy6 := hkeep hb6 hy
  have hH6 := hkeep hb6 hHq
  have hR6 := hkeep hb6 hRq
  have hB6 := bstep hBq hBq.size hb6
  have hs6 : w5.heap.size < (w5.alloc (.cells (hc T.h (.slice a2 T.l.length cap2)) 29)).heap.size := by simp
  generalize w5.alloc (.cells (hc T.h (.slice a2 T.l.length cap2)) 29) = w6 at *
  generalize w5.heap.size = bz at *
  have hdM2 : (nats M.done).length ≤ 24 := by rw [nats_len]; exact hdM
  have hdT2 : (nats T.d).length ≤ 25 := by rw [nats_len]; omega
  have cY6 := cells_at hy6
  have htl := t.list
  have hto := fun k hk => t.ints.own (x := k) hk
  clear hb6 hb5 hx hy hp2 ho2 t
  replace hv6 := Lib.hid hv6
  replace ho6 := Lib.hid ho6
  replace hfb := Lib.hid hfb
  replace htl := Lib.hid htl
  replace hto := Lib.hid hto
  go_upto_region 64 with (first | go_skip | (at_builtin; refine wpList_append_ints rfl _ _ rfl w1.heap.size wq.heap.size (.slice al (nats M.done).length cl) v2 (nats M.done) (nats T.d) rfl rfl hv6.out ho6.out (by omega) (by omega) ?_; intro v3 w7 ho7 hgr7 hfr7; obtain ⟨a3, c3, rfl, _, _⟩ := ho7.at_; generalize (nats M.done ++ nats T.d).length = n3 at *; have hy7 := (hgr7.block (bx + 1) (hlt hy6) fun e => htl.out.2 e.symm).trans hy6; have fY := frozenAt hy7; have cY := cells_at hy7; have hset := hsetSame (i := 2) hy7 (.slice a3 n3 c3); replace hset := Lib.hid hset))
  have hZ7 := (hgr7.block bz (hlt hZ6) fun e => by have := ints_own_lt hv6.out e.symm; have := hto.out _ e.symm; exact absurd e.symm (by intro e'; obtain ⟨_, c', h'⟩ := owns_block' hv6.out.1 e'; rw [hZ6] at h'; injection Option.some.inj h' with _ ht _; exact absurd ht (by decide))).trans hZ6
  have hH7 := (hgr7.block _ (hlt hH6) fun e => by have := hto.out _ e.symm; omega).trans hH6
  have hR7 := (hgr7.block _ (hlt hR6) fun e => by have := hto.out _ e.symm; omega).trans hR6
  have hp7 := (only_grown hgr7).pays hp6 fun hl b off s e => (hfb.out hl b off s e).2.2.2
  have hB7 := hB6.grown hgr7 hB6.size fun k hk => by have := hto.out k hk; omega
  have hne3 : ∀ k, (Value.slice a3 n3 c3).ownBlock = some k → w1.heap.size ≤ k ∧ k ≠ bx + 1 ∧ ∀ (b off : Nat) (s : Option Nat), 0 < T.l.length → a2 = some ⟨b, off, s⟩ → k ≠ b := fun k hk => by
   rcases hfr7 k hk with h1 | h1
   ·exact ⟨hto.out k h1, fun e => htl.out.2 (e ▸ h1), fun b off s hl e e' => (hfb.out hl b off s e).2.2.2 (e' ▸ h1)⟩
   ·have hly := hlt hy6
    refine ⟨by omega, by omega, fun b off s hl e e' => ?_⟩
    obtain ⟨b', off', e2, hbl, _⟩ := hp6.row hl
    rw [e] at e2; cases e2; omega
  clear hgr7 hZ6 hH6 hR6 hp6 hB6 hy6 cY6 hv6 ho6 fY cY
  generalize hWs : World.setCell w7 _ _ = w8
  have hy8 : w8.heap[bx + 1]? = some (.cells (rc 0 M.n (.slice a3 n3 c3)) 44 (0, 0)) := by rw [← hWs]; exact hset.out
  have hZ8 : w8.heap[bz]? = some (.cells (hc T.h (.slice a2 T.l.length cap2)) 29 (0, 0)) := by rw [← hWs]; exact hsetOther hZ7 (by omega) _
  have hH8 : w8.heap[w.heap.size + 2]? = some (.cells (hc Hs.zero (.slice none 0 0)) 29 (0, 0)) := by rw [← hWs]; exact hsetOther hH7 (by omega) _
  have hR8 : w8.heap[w.heap.size + 3]? = some (.cells (rc 0 0 (.slice none 0 0)) 44 (0, 0)) := by rw [← hWs]; exact hsetOther hR7 (by omega) _
  have hp8 : PaysAt w8 a2 cap2 T.l := by rw [← hWs]; exact pay_set hp7 _ _ _ fun hl b off s e => (hfb.out hl b off s e).2.2.1
  have hB8 : Below w.heap.size w w8 := by rw [← hWs]; exact hB7.setCell (by show w.heap.size ≤ bx + 1; omega) _
  have ho8 : OwnInts w8 w.heap.size (.slice a3 n3 c3) (nats (M.done ++ T.d)) := by
   rw [nats_app, ← hWs]
   exact ⟨owns_only' (ho7.mono (by omega)).1 (only_set (bx + 1) 2 _ w7) fun x hx e => (hne3 x hx).2.1 e, ho7.2⟩
  replace ho8 := Lib.hid ho8
  replace hne3 := Lib.hid hne3
  clear hWs hset hZ7 hH7 hR7 hp7 hB7 hy7 ho7
  have hHd : w8.drew.heap[w.heap.size + 2]? = _ := hH8
  have hRd : w8.drew.heap[w.heap.size + 3]? = _ := hR8
  have hxd : w8.drew.heap[bz]? = some (.cells (hc T.h (.slice a2 T.l.length cap2)) 29 (0, 0)) := hZ8
  have hyd : w8.drew.heap[bx + 1]? = some (.cells (rc 0 M.n (.slice a3 n3 c3)) 44 (0, 0)) := hy8
  go_upto_region 64 with fail
  refine wpG_start (fun w' : World => w'.heap[bz]? = some (.cells (hc T.h (.slice a2 T.l.length cap2)) 29 (0, 0)) ∧ w'.heap[bx + 1]? = some (.cells (rc 0 M.n (.slice a3 n3 c3)) 44 (0, 0))) 3 (by kernel_rfl) ?_
  have hI0 : (fun w' : World => w'.heap[bz]? = some (.cells (hc T.h (.slice a2 T.l.length cap2)) 29 (0, 0)) ∧ w'.heap[bx + 1]? = some (.cells (rc 0 M.n (.slice a3 n3 c3)) 44 (0, 0))) w8.drew := ⟨hxd, hyd⟩
  refine wpG_put 347 (i := 0) (oi := _) (v := (.agg (hc T.h (.slice a2 T.l.length cap2)))) [0] rfl rfl (by kernel_rfl) (by kernel_rfl) (by kernel_rfl) (by kernel_rfl) (fun _ _ _ h => h) hI0 ?hy7 ?rs7
  case hy7 => exact yields_row 29 _ rfl rfl _ rfl _ _ _ _ (fun w' hb => hb.1) Try.underlying29 rfl info30
  (try simp only [Act.put, List.setIfInBounds_toArray, List.set_cons_succ, List.set_cons_zero])
  refine wpG_put 348 (i := 1) (oi := _) (v := (.agg (rc 0 M.n (.slice a3 n3 c3)))) [1] rfl rfl (by kernel_rfl) (by kernel_rfl) (by kernel_rfl) (by kernel_rfl) (fun _ _ _ h => h) hI0 ?hy8 ?rs8
  case hy8 => exact yields_row 44 _ rfl rfl _ rfl _ _ _ _ (fun w' hb => hb.2) Try.underlying44 rfl infoRp
  (try simp only [Act.put, List.setIfInBounds_toArray, List.set_cons_succ, List.set_cons_zero])
  clear hI0
  refine wpG_one (i := 2) (by kernel_rfl) rfl ?_
  go_wp2_with (first | go_skip | (refine st_row 29 _ _ rfl rfl _ rfl _ rfl _ _ hHd info30 rfl (hc_one _ _ rfl) ?_; intro wa hra hgra hsza))
  refine ⟨⟨(hgra.block _ (hlt hxd) (by simp; omega)).trans hxd, (hgra.block _ (hlt hyd) (by simp; omega)).trans hyd⟩, ?_⟩
  (try simp only [Act.put, List.setIfInBounds_toArray, List.set_cons_succ, List.set_cons_zero])
  refine wpG_drop 3 rfl (by kernel_rfl) ?_
  simp only [List.drop_succ_cons, List.drop_zero]
  go_wp2_with (first | go_skip | (refine st_row 44 _ _ rfl rfl _ rfl (rc 0 M.n (.slice a3 n3 c3)) rfl _ _ ((hgra.block _ (hlt hRd) (by simp)).trans hRd) infoRp rfl (rc_one _ _ _ rfl) ?_; intro wb hrb hgrb hszb))
  exact bodyPost_ret (results_hr rfl _ _ _ _ _ _ _ _ _ rfl rfl ((hgrb.block _ (hlt hra) (by simp)).trans hra) hrb) rfl (by rw [eX.out]; exact nexts_end (X := ⟨T.h, T.l, 0, M.n, M.done ++ T.d⟩) rfl hB8.drew hgra hgrb (hp8.below (Below.refl _ _).drew) (fun hl b off s e => by have hs := hfb.out hl b off s e; exact ⟨.inr (by omega), by omega, by omega, fun e' => (hne3.out b e').2.2 b off s hl e rfl⟩) (ho8.out.below (Below.refl _ _).drew) (fun k hk => by have h1 := (hne3.out k hk).1; omega))
 ·by_cases e1 : waitsAt l a = false
  ·have eN : nextL h l ⟨3, a, b, c, n⟩ = .err h l 4 := nl_cls1 hgb.out rfl e1
   replace eN := Lib.hid eN
   go_wp2_with (first | go_skip | (go_at_call 63; refine (refNo_any h _ rfl 4 w.heap.size _ hA).mono ?_; rintro e wn ⟨rfl, hbn⟩) | (refine st_row 29 _ _ rfl rfl _ rfl _ rfl _ _ (hkeep hbn hH) info30 rfl (hc_one _ _ rfl) ?_; intro wa hra hgra hsza) | (refine st_row 44 _ _ rfl rfl _ rfl (rc 4 0 (.slice none 0 0)) rfl _ _ ((hgra.block _ (hlt (hkeep hbn hR)) (by simp)).trans (hkeep hbn hR)) infoRp rfl (rc_one _ _ _ rfl) ?_; intro wb hrb hgrb hszb))
   exact bodyPost_ret (results_hr rfl _ _ _ _ _ _ _ _ _ rfl rfl ((hgrb.block _ (hlt hra) (by simp)).trans hra) hrb) rfl (by rw [eN.out]; exact nexts_end (X := .err h l 4) rfl (bstep hB hB.size hbn) hgra hgrb (hp0.below hbn) (fun hl b off s e => ⟨.inl ⟨rfl, by simp [Nx.err]⟩, by have := hpl.out hl b off s e; omega, by have := hpl.out hl b off s e; omega, by simp [Value.ownBlock]⟩) (OwnInts.nil _ _) (fun x hx => by simp [Value.ownBlock] at hx))
  have e1 : waitsAt l a = true := by simpa using e1
  by_cases e2 : sm 0 c 2 = false
  ·have eN : nextL h l ⟨3, a, b, c, n⟩ = .err h l 3 := nl_cls2 hgb.out rfl e1 e2
   replace eN := Lib.hid eN
   go_wp2_with (first | go_skip | (go_at_call 59; refine (within_any _ _ _ _).mono ?_; rintro e w' ⟨rfl, rfl⟩; first | rw [e2]) | (go_at_call 63; refine (refNo_any h _ rfl 3 w.heap.size _ hA).mono ?_; rintro e wn ⟨rfl, hbn⟩) | (refine st_row 29 _ _ rfl rfl _ rfl _ rfl _ _ (hkeep hbn hH) info30 rfl (hc_one _ _ rfl) ?_; intro wa hra hgra hsza) | (refine st_row 44 _ _ rfl rfl _ rfl (rc 3 0 (.slice none 0 0)) rfl _ _ ((hgra.block _ (hlt (hkeep hbn hR)) (by simp)).trans (hkeep hbn hR)) infoRp rfl (rc_one _ _ _ rfl) ?_; intro wb hrb hgrb hszb))
   exact bodyPost_ret (results_hr rfl _ _ _ _ _ _ _ _ _ rfl rfl ((hgrb.block _ (hlt hra) (by simp)).trans hra) hrb) rfl (by rw [eN.out]; exact nexts_end (X := .err h l 3) rfl (bstep hB hB.size hbn) hgra hgrb (hp0.below hbn) (fun hl b off s e => ⟨.inl ⟨rfl, by simp [Nx.err]⟩, by have := hpl.out hl b off s e; omega, by have := hpl.out hl b off s e; omega, by simp [Value.ownBlock]⟩) (OwnInts.nil _ _) (fun x hx => by simp [Value.ownBlock] at hx))
  have e2 : sm 0 c 2 = true := by simpa using e2
  by_cases e3 : 1048576 ≤ h.next
  ·have d3 : (h.next == 1048576) = true := by rw [beq_iff_eq]; omega
   have eN : nextL h l ⟨3, a, b, c, n⟩ = .err h l 5 := nl_cls3 hgb.out rfl e1 e2 e3
   replace eN := Lib.hid eN
   go_wp2_with (first | go_skip | (go_at_call 59; refine (within_any _ _ _ _).mono ?_; rintro e w' ⟨rfl, rfl⟩; first | rw [e2]) | (go_at_call 63; refine (refNo_any h _ rfl 5 w.heap.size _ hA).mono ?_; rintro e wn ⟨rfl, hbn⟩) | (refine st_row 29 _ _ rfl rfl _ rfl _ rfl _ _ (hkeep hbn hH) info30 rfl (hc_one _ _ rfl) ?_; intro wa hra hgra hsza) | (refine st_row 44 _ _ rfl rfl _ rfl (rc 5 0 (.slice none 0 0)) rfl _ _ ((hgra.block _ (hlt (hkeep hbn hR)) (by simp)).trans (hkeep hbn hR)) infoRp rfl (rc_one _ _ _ rfl) ?_; intro wb hrb hgrb hszb))
   exact bodyPost_ret (results_hr rfl _ _ _ _ _ _ _ _ _ rfl rfl ((hgrb.block _ (hlt hra) (by simp)).trans hra) hrb) rfl (by rw [eN.out]; exact nexts_end (X := .err h l 5) rfl (bstep hB hB.size hbn) hgra hgrb (hp0.below hbn) (fun hl b off s e => ⟨.inl ⟨rfl, by simp [Nx.err]⟩, by have := hpl.out hl b off s e; omega, by have := hpl.out hl b off s e; omega, by simp [Value.ownBlock]⟩) (OwnInts.nil _ _) (fun x hx => by simp [Value.ownBlock] at hx))
  have d3 : (h.next == 1048576) = false := by rw [beq_eq_false_iff_ne]; omega
  have eNL := nl_cls (d := ⟨3, a, b, c, n⟩) hgb.out rfl e1 e2 e3
  obtain ⟨hi0, hst, hap⟩ := waitsAt_true e1
  obtain ⟨i, rfl⟩ : ∃ i : Nat, a = i := ⟨a.toNat, by omega⟩
  simp only [Int.toNat_natCast] at hi0 hst eNL
  obtain ⟨gg, cap, cur, ee, hbg, hgg, hlc, hcm, hcs, hcur⟩ := hown.out.row (by omega)
  simp only [Value.slice.injEq, true_and] at ee
  obtain ⟨rfl, rfl⟩ := ee
  have hgl : gg < bx := hob.out gg rfl
  have hpi := payAt_get hi0
  have hii : (i : Int) < (l.length : Int) := by omega
  have hml : (l.length : Int) ≤ 9223372036854775807 := by omega
  have hx3' : cur[i * 6 + 3]? = some (.int .i64 (payAt l i).cls) := hcur i _ hpi 3 _ (pc_3 _)
  have hx5 : cur[i * 6 + 5]? = some (.int .i64 (payAt l i).seq) := hcur i _ hpi 5 _ (pc_5 _)
  replace hcur := Lib.hid hcur
  replace hpi := Lib.hid hpi
  replace hst := Lib.hid hst
  replace eNL := Lib.hid eNL
  replace hx3' := Lib.hid hx3'
  replace hx5 := Lib.hid hx5
  go_upto_region 29 with (first | go_skip | (go_at_call 59; refine (within_any _ _ _ _).mono ?_; rintro e w' ⟨rfl, rfl⟩; first | rw [e2]))
  clear cA cD
  have hcI : ∀ w' : World, (fun w' : World => w'.heap[w.heap.size]? = some (.cells (hc h (.slice a0 l.length cap0)) 29 (0, 0)) ∧ w'.heap[w.heap.size + 1]? = some (.cells (dc ⟨3, (i : Int), b, c, n⟩) 40 (0, 0)) ∧ w'.heap[bx]? = some (.cells (hc h (.slice (some ⟨gg, 0, none⟩) l.length cap1)) 29 (0, 0))) w' → w'.cell? ⟨bx, 40, none⟩ = some (.slice (some ⟨gg, 0, none⟩) l.length cap1) ∧ w'.cell? ⟨w.heap.size + 1, 1, none⟩ = some (.int .i64 (i : Int)) ∧ w'.cell? ⟨w.heap.size + 1, 3, none⟩ = some (.int .i64 c) ∧ w'.cell? ⟨w.heap.size, 41, none⟩ = some (.int .i64 h.next) := fun w' hb =>
   ⟨cells_at hb.2.2 40, cells_at hb.2.1 1, cells_at hb.2.1 3, cells_at hb.1 41⟩
  have fG := frozenAt hgg
  have cG3 : w4.cell? ⟨gg, i * 6 + 3, none⟩ = some (.int .i64 (payAt l i).cls) := (cells_at hgg _).trans hx3'.out
  have cG5 : w4.cell? ⟨gg, i * 6 + 5, none⟩ = some (.int .i64 (payAt l i).seq) := (cells_at hgg _).trans hx5.out
  have hs1 := hsetSame (i := i * 6 + 3) hgg (.int .i64 c)
  have hs2 := hsetSame (i := i * 6 + 5) hs1 (.int .i64 h.next)
  have hA3 := hsetOther (i := i * 6 + 3) hA (by omega : w.heap.size ≠ gg) (.int .i64 c)
  have hD3 := hsetOther (i := i * 6 + 3) hD (by omega : w.heap.size + 1 ≠ gg) (.int .i64 c)
  have hX3 := hsetOther (i := i * 6 + 3) hX (by omega : bx ≠ gg) (.int .i64 c)
  replace hcI := Lib.hid hcI
  replace hs1 := Lib.hid hs1
  replace hs2 := Lib.hid hs2
  replace hA3 := Lib.hid hA3
  replace hD3 := Lib.hid hD3
  replace hX3 := Lib.hid hX3
  refine wpG_start (fun w' : World => w'.heap[w.heap.size]? = some (.cells (hc h (.slice a0 l.length cap0)) 29 (0, 0)) ∧ w'.heap[w.heap.size + 1]? = some (.cells (dc ⟨3, (i : Int), b, c, n⟩) 40 (0, 0)) ∧ w'.heap[bx]? = some (.cells (hc h (.slice (some ⟨gg, 0, none⟩) l.length cap1)) 29 (0, 0))) 17 (by kernel_rfl) ?_
  have hI0 : (fun w' : World => w'.heap[w.heap.size]? = some (.cells (hc h (.slice a0 l.length cap0)) 29 (0, 0)) ∧ w'.heap[w.heap.size + 1]? = some (.cells (dc ⟨3, (i : Int), b, c, n⟩) 40 (0, 0)) ∧ w'.heap[bx]? = some (.cells (hc h (.slice (some ⟨gg, 0, none⟩) l.length cap1)) 29 (0, 0))) w4.drew := ⟨hA, hD, hX⟩
  refine wpG_put 138 (i := 0) (oi := _) (v := (.pointer (some ⟨bx, 40, none⟩))) [0] rfl rfl (by kernel_rfl) (by kernel_rfl) (by kernel_rfl) (by kernel_rfl) (fun _ _ _ h => h) hI0 ?hy9 ?rs9
  case hy9 => exact Or.inl ⟨by rfl, by intro w' hb; obtain ⟨c1, c2, c3, c4⟩ := hcI.out w' hb; go_simp; first | done | exact IntWalk.i64_in _ (by omega)⟩
  (try simp only [Act.put, List.setIfInBounds_toArray, List.set_cons_succ, List.set_cons_zero])
  refine wpG_put 139 (i := 1) (oi := _) (v := (.slice (some ⟨gg, 0, none⟩) l.length cap1)) [1] rfl rfl (by kernel_rfl) (by kernel_rfl) (by kernel_rfl) (by kernel_rfl) (fun _ _ _ h => h) hI0 ?hy10 ?rs10
  case hy10 => exact Or.inl ⟨by rfl, by intro w' hb; obtain ⟨c1, c2, c3, c4⟩ := hcI.out w' hb; go_simp; first | done | exact IntWalk.i64_in _ (by omega)⟩
  (try simp only [Act.put, List.setIfInBounds_toArray, List.set_cons_succ, List.set_cons_zero])
  refine wpG_put 140 (i := 2) (oi := _) (v := (.pointer (some ⟨w.heap.size + 1, 1, none⟩))) [2] rfl rfl (by kernel_rfl) (by kernel_rfl) (by kernel_rfl) (by kernel_rfl) (fun _ _ _ h => h) hI0 ?hy11 ?rs11
  case hy11 => exact Or.inl ⟨by rfl, by intro w' hb; obtain ⟨c1, c2, c3, c4⟩ := hcI.out w' hb; go_simp; first | done | exact IntWalk.i64_in _ (by omega)⟩
  (try simp only [Act.put, List.setIfInBounds_toArray, List.set_cons_succ, List.set_cons_zero])
  refine wpG_put 141 (i := 3) (oi := _) (v := (.int .i64 (i : Int))) [3] rfl rfl (by kernel_rfl) (by kernel_rfl) (by kernel_rfl) (by kernel_rfl) (fun _ _ _ h => h) hI0 ?hy12 ?rs12
  case hy12 => exact Or.inl ⟨by rfl, by intro w' hb; obtain ⟨c1, c2, c3, c4⟩ := hcI.out w' hb; go_simp; first | done | exact IntWalk.i64_in _ (by omega)⟩
  (try simp only [Act.put, List.setIfInBounds_toArray, List.set_cons_succ, List.set_cons_zero])
  refine wpG_put 142 (i := 4) (oi := _) (v := (.pointer (some ⟨bx, 40, none⟩))) [4] rfl rfl (by kernel_rfl) (by kernel_rfl) (by kernel_rfl) (by kernel_rfl) (fun _ _ _ h => h) hI0 ?hy13 ?rs13
  case hy13 => exact Or.inl ⟨by rfl, by intro w' hb; obtain ⟨c1, c2, c3, c4⟩ := hcI.out w' hb; go_simp; first | done | exact IntWalk.i64_in _ (by omega)⟩
  (try simp only [Act.put, List.setIfInBounds_toArray, List.set_cons_succ, List.set_cons_zero])
  refine wpG_put 143 (i := 5) (oi := _) (v := (.slice (some ⟨gg, 0, none⟩) l.length cap1)) [5] rfl rfl (by kernel_rfl) (by kernel_rfl) (by kernel_rfl) (by kernel_rfl) (fun _ _ _ h => h) hI0 ?hy14 ?rs14
  case hy14 => exact Or.inl ⟨by rfl, by intro w' hb; obtain ⟨c1, c2, c3, c4⟩ := hcI.out w' hb; go_simp; first | done | exact IntWalk.i64_in _ (by omega)⟩
  (try simp only [Act.put, List.setIfInBounds_toArray, List.set_cons_succ, List.set_cons_zero])
  refine wpG_put 144 (i := 6) (oi := _) (v := (.pointer (some ⟨w.heap.size + 1, 1, none⟩))) [6] rfl rfl (by kernel_rfl) (by kernel_rfl) (by kernel_rfl) (by kernel_rfl) (fun _ _ _ h => h) hI0 ?hy15 ?rs15
  case hy15 => exact Or.inl ⟨by rfl, by intro w' hb; obtain ⟨c1, c2, c3, c4⟩ := hcI.out w' hb; go_simp; first | done | exact IntWalk.i64_in _ (by omega)⟩
  (try simp only [Act.put, List.setIfInBounds_toArray, List.set_cons_succ, List.set_cons_zero])
  refine wpG_put 145 (i := 7) (oi := _) (v := (.int .i64 (i : Int))) [7] rfl rfl (by kernel_rfl) (by kernel_rfl) (by kernel_rfl) (by kernel_rfl) (fun _ _ _ h => h) hI0 ?hy16 ?rs16
  case hy16 => exact Or.inl ⟨by rfl, by intro w' hb; obtain ⟨c1, c2, c3, c4⟩ := hcI.out w' hb; go_simp; first | done | exact IntWalk.i64_in _ (by omega)⟩
  (try simp only [Act.put, List.setIfInBounds_toArray, List.set_cons_succ, List.set_cons_zero])
  refine wpG_put 146 (i := 8) (oi := _) (v := (.pointer (some ⟨w.heap.size + 1, 3, none⟩))) [8] rfl rfl (by kernel_rfl) (by kernel_rfl) (by kernel_rfl) (by kernel_rfl) (fun _ _ _ h => h) hI0 ?hy17 ?rs17
  case hy17 => exact Or.inl ⟨by rfl, by intro w' hb; obtain ⟨c1, c2, c3, c4⟩ := hcI.out w' hb; go_simp; first | done | exact IntWalk.i64_in _ (by omega)⟩
  (try simp only [Act.put, List.setIfInBounds_toArray, List.set_cons_succ, List.set_cons_zero])
  refine wpG_put 147 (i := 9) (oi := _) (v := (.int .i64 c)) [9] rfl rfl (by kernel_rfl) (by kernel_rfl) (by kernel_rfl) (by kernel_rfl) (fun _ _ _ h => h) hI0 ?hy18 ?rs18
  case hy18 => exact Or.inl ⟨by rfl, by intro w' hb; obtain ⟨c1, c2, c3, c4⟩ := hcI.out w' hb; go_simp; first | done | exact IntWalk.i64_in _ (by omega)⟩
  (try simp only [Act.put, List.setIfInBounds_toArray, List.set_cons_succ, List.set_cons_zero])
  refine wpG_put 148 (i := 10) (oi := _) (v := (.pointer (some ⟨w.heap.size, 41, none⟩))) [10] rfl rfl (by kernel_rfl) (by kernel_rfl) (by kernel_rfl) (by kernel_rfl) (fun _ _ _ h => h) hI0 ?hy19 ?rs19
  case hy19 => exact Or.inl ⟨by rfl, by intro w' hb; obtain ⟨c1, c2, c3, c4⟩ := hcI.out w' hb; go_simp; first | done | exact IntWalk.i64_in _ (by omega)⟩
  (try simp only [Act.put, List.setIfInBounds_toArray, List.set_cons_succ, List.set_cons_zero])
  refine wpG_put 149 (i := 11) (oi := _) (v := (.int .i64 h.next)) [11] rfl rfl (by kernel_rfl) (by kernel_rfl) (by kernel_rfl) (by kernel_rfl) (fun _ _ _ h => h) hI0 ?hy20 ?rs20
  case hy20 => exact Or.inl ⟨by rfl, by intro w' hb; obtain ⟨c1, c2, c3, c4⟩ := hcI.out w' hb; go_simp; first | done | exact IntWalk.i64_in _ (by omega)⟩
  (try simp only [Act.put, List.setIfInBounds_toArray, List.set_cons_succ, List.set_cons_zero])
  refine wpG_put 150 (i := 12) (oi := _) (v := (.pointer (some ⟨gg, i * 6, none⟩))) [12] rfl rfl (by kernel_rfl) (by kernel_rfl) (by kernel_rfl) (by kernel_rfl) (fun _ _ _ h => h) hI0 ?hy21 ?rs21
  case hy21 => exact Or.inl ⟨by rfl, by intro w' hb; obtain ⟨c1, c2, c3, c4⟩ := hcI.out w' hb; go_simp; first | done | exact IntWalk.i64_in _ (by omega)⟩
  (try simp only [Act.put, List.setIfInBounds_toArray, List.set_cons_succ, List.set_cons_zero])
  refine wpG_put 151 (i := 13) (oi := _) (v := (.pointer (some ⟨gg, i * 6 + 3, none⟩))) [13] rfl rfl (by kernel_rfl) (by kernel_rfl) (by kernel_rfl) (by kernel_rfl) (fun _ _ _ h => h) hI0 ?hy22 ?rs22
  case hy22 => exact Or.inl ⟨by rfl, by intro w' hb; obtain ⟨c1, c2, c3, c4⟩ := hcI.out w' hb; go_simp; first | done | exact IntWalk.i64_in _ (by omega)⟩
  (try simp only [Act.put, List.setIfInBounds_toArray, List.set_cons_succ, List.set_cons_zero])
  clear hI0
  refine wpG_one (i := 14) (by kernel_rfl) rfl ?_
  go_wp2_with fail
  refine ⟨⟨hA3.out, hD3.out, hX3.out⟩, ?_⟩
  (try simp only [Act.put, List.setIfInBounds_toArray, List.set_cons_succ, List.set_cons_zero])
  refine wpG_one (i := 15) (by kernel_rfl) rfl ?_
  go_wp2_with fail
  refine ⟨⟨hA3.out, hD3.out, hX3.out⟩, ?_⟩
  (try simp only [Act.put, List.setIfInBounds_toArray, List.set_cons_succ, List.set_cons_zero])
  refine wpG_one (i := 16) (by kernel_rfl) rfl ?_
  go_wp2_with fail
  refine ⟨⟨hA3.out, hD3.out, hX3.out⟩, ?_⟩
  (try simp only [Act.put, List.setIfInBounds_toArray, List.set_cons_succ, List.set_cons_zero])
  refine wpG_drop 17 rfl (by kernel_rfl) ?_
  simp only [List.drop_succ_cons, List.drop_zero]
  go_upto_region 30 with fail
  generalize hWs : World.drew _ = w5
  have hOa : Only (fun b => b = gg) w4 w5 := by rw [← hWs]; exact (((only_set gg _ _ _).trans (only_set gg _ _ _))).drew
  have hX5 : w5.heap[bx]? = some (.cells (hc h (.slice (some ⟨gg, 0, none⟩) l.length cap1)) 29 (0, 0)) := by rw [← hWs]; exact hsetOther hX3.out (by omega) _
  have hG5 : w5.heap[gg]? = some (.cells ((cur.setIfInBounds (i * 6 + 3) (.int .i64 c)).setIfInBounds (i * 6 + 5) (.int .i64 h.next)) 70 (0, 0)) := by rw [← hWs]; exact hs2.out
  clear hWs hs1 hs2 hA3 hD3 hX3 fG cG3 cG5 hcI
  have cX := cells_at hX5
  have fX := frozenAt hX5
  have hset := hsetSame (i := 41) hX5 (.int .i64 (h.next + 1))
  rw [hc_setNext] at hset
  replace hset := Lib.hid hset
  replace hG5 := Lib.hid hG5
  go_upto_region 62 with fail
  clear cX fX
  generalize hWs : World.setCell w5 _ _ = wq
  have hOb : Only (fun b => b = gg ∨ b = bx) w4 wq := by rw [← hWs]; exact (hOa.mono fun b _ e => .inl e).trans ((only_set bx _ _ _).mono fun b _ e => .inr e)
  have hXq : wq.heap[bx]? = some (.cells (hc (h.setNext (h.next + 1)) (.slice (some ⟨gg, 0, none⟩) (l.set i ((payAt l i).last c h.next)).length cap1)) 29 (0, 0)) := by rw [List.length_set, ← hWs]; exact hset.out
  have hpq : PaysAt wq (some ⟨gg, 0, none⟩) cap1 (l.set i ((payAt l i).last c h.next)) := PaysAt.of_row (by rw [← hWs]; exact hsetOther hG5.out (by omega) _) (by rw [List.length_set]; exact hlc) hcm (by rw [List.length_set]; omega) (last_row hcur.out hi0)
  clear hOa hG5
  have hYq : wq.heap[bx + 1]? = some (.cells (rc 0 0 (.slice none 0 0)) 44 (0, 0)) := (hOb.block _ (hlt hY) (by omega)).trans hY
  have hHq : wq.heap[w.heap.size + 2]? = some (.cells (hc Hs.zero (.slice none 0 0)) 29 (0, 0)) := (hOb.block _ (hlt hH) (by omega)).trans hH
  have hRq : wq.heap[w.heap.size + 3]? = some (.cells (rc 0 0 (.slice none 0 0)) 44 (0, 0)) := (hOb.block _ (hlt hR) (by omega)).trans hR
  have hBq : Below w.heap.size w wq := ((only_new (av := fun b => w.heap.size ≤ b) hB).step hOb fun b e => by left; omega).below (Nat.le_refl _) fun _ h => h
  have hLq : Below w1.heap.size w1 wq := ((only_new (av := fun b => w1.heap.size ≤ b) hL).step hOb fun b e => by left; omega).below (Nat.le_refl _) fun _ h => h
  have hsq : ∀ {L : List Pay}, 0 < L.length → ∀ b off s, (some (⟨gg, 0, none⟩ : Addr)) = some ⟨b, off, s⟩ → (False ∨ w1.heap.size ≤ b) ∧ (Value.slice none 0 0).ownBlock ≠ some b ∧ b ≠ bx ∧ b ≠ bx + 1 := fun _ b off s e => by cases e; exact ⟨.inr hbg, by simp [Value.ownBlock], by omega, by omega⟩
  clear hWs hOb hset
  have t : Two (fun _ => False) w1 wq bx (bx + 1) ⟨h.setNext (h.next + 1), l.set i ((payAt l i).last c h.next), 0, 0, []⟩ (some ⟨gg, 0, none⟩ : Option Addr) cap1 (Value.slice none 0 0) := ⟨hLq, hXq, hYq, by omega, by omega, by omega, hpq, OwnInts.nil _ _, hsq, ⟨by simp [Value.ownBlock], by simp [Value.ownBlock]⟩⟩
  have eN : nextL h l ⟨3, (i : Int), b, c, n⟩ = .swept (⟨h.setNext (h.next + 1), l.set i ((payAt l i).last c h.next), 0, 0, []⟩ : Nx).h (⟨h.setNext (h.next + 1), l.set i ((payAt l i).last c h.next), 0, 0, []⟩ : Nx).l (⟨h.setNext (h.next + 1), l.set i ((payAt l i).last c h.next), 0, 0, []⟩ : Nx).n (⟨h.setNext (h.next + 1), l.set i ((payAt l i).last c h.next), 0, 0, []⟩ : Nx).done := eNL.out
  have hsm : (⟨h.setNext (h.next + 1), l.set i ((payAt l i).last c h.next), 0, 0, []⟩ : Nx).done.length ≤ 24 ∧ (⟨h.setNext (h.next + 1), l.set i ((payAt l i).last c h.next), 0, 0, []⟩ : Nx).l.length ≤ 25 ∧ (⟨h.setNext (h.next + 1), l.set i ((payAt l i).last c h.next), 0, 0, []⟩ : Nx).code = 0 := ⟨by simp, by rw [List.length_set]; omega, rfl⟩
  obtain ⟨M, hM⟩ : ∃ M : Nx, ⟨h.setNext (h.next + 1), l.set i ((payAt l i).last c h.next), 0, 0, []⟩ = M := ⟨_, rfl⟩
  rw [hM] at t eN hsm
  replace hM := Lib.hid hM
  obtain ⟨hdM, hlM, hcM⟩ := hsm
  obtain ⟨vr, hvr⟩ : ∃ vr : Value, (Value.slice none 0 0) = vr := ⟨_, rfl⟩
  rw [hvr] at t
  replace hvr := Lib.hid hvr
  obtain ⟨ax, hax⟩ : ∃ ax : Option Addr, (some ⟨gg, 0, none⟩ : Option Addr) = ax := ⟨_, rfl⟩
  rw [hax] at t
  replace hax := Lib.hid hax
  obtain ⟨al, cl, rfl, _, hal⟩ := t.ints.at_
  have hx := t.hx
  have hy := t.hy
  rw [hcM] at hy
  have hsc := t.low.size
  have cS := fun w hp => sweepHouse_anyS M.h M.l ax cap1 w hp
  obtain ⟨T, hT⟩ : ∃ T, sweepG M.h M.l = T := ⟨_, rfl⟩
  rw [hT] at cS
  have eX : nextL h l ⟨3, (i : Int), b, c, n⟩ = ⟨T.h, T.l, 0, M.n, M.done ++ T.d⟩ := by rw [eN, ← hT]; rfl
  have hlT : T.l.length = M.l.length := by rw [← hT]; exact (sweep_ext M.h M.l).len
  have hdT : T.d.length ≤ M.l.length := by rw [← hT]; exact ext_le (sweep_ext M.h M.l)
  clear eN
  replace hcM := Lib.hid hcM
  replace eX := Lib.hid eX
  replace cS := Lib.hid cS
  replace hT := Lib.hid hT
  replace hal := Lib.hid hal
  replace hlT := Lib.hid hlT
  clear hXq hYq hLq
  go_upto_region 63 with (first | go_skip | (refine ld_row 29 _ rfl rfl _ rfl _ _ _ _ hx Try.underlying29 rfl info30 ?_) | (go_at_call 67; refine (cS.out _ t.pays).mono ?_; rintro e w5 ⟨⟨a2, cap2, v2, rfl, hp2, ho2, hfa, hap⟩, hb5⟩) | (refine st_new 29 _ _ rfl _ 29 _ rfl rfl rfl (hc T.h (.slice a2 T.l.length cap2)) rfl info30 rfl (hc_one _ _ rfl) ?_))
  have hZ6 := hnew w5 (.cells (hc T.h (.slice a2 T.l.length cap2)) 29)
  have hb6 := hb5.alloc hb5.size (.cells (hc T.h (.slice a2 T.l.length cap2)) 29)
  have hs5 := hb5.size
  have hxl := hlt hx
  have hyl := hlt hy
  have hfb : 0 < T.l.length → ∀ b off s, a2 = some ⟨b, off, s⟩ → (w1.heap.size ≤ b ∧ b ≠ w5.heap.size ∧ b ≠ bx + 1 ∧ (Value.slice al (nats M.done).length cl).ownBlock ≠ some b) := fun hl b off s e => by
   have hbl : b < w5.heap.size := by
    obtain ⟨b', off', e', hbl, _⟩ := hp2.row hl
    rw [e] at e'; cases e'; exact hbl
   rcases hfa b off s e with ⟨off', s', e'⟩ | hge
   ·have hs := t.src (by rw [← hlT.out]; exact hl) b off' s' e'
    exact ⟨hs.1.resolve_left id, by omega, hs.2.2.2, hs.2.1⟩
   ·exact ⟨by omega, by omega, by omega, fun e => by have := ints_own_lt t.ints e; omega⟩
  have hp6 := hp2.alloc (.cells (hc T.h (.slice a2 T.l.length cap2)) 29)
  have ho6 := ho2.alloc (.cells (hc T.h (.slice a2 T.l.length cap2)) 29)
  have hv6 : OwnInts (w5.alloc (.cells (hc T.h (.slice a2 T.l.length cap2)) 29)) w1.heap.size (.slice al (nats M.done).length cl) (nats M.done) := t.ints.below hb6
  have hy6 := hkeep hb6 hy
  have hH6 := hkeep hb6 hHq
  have hR6 := hkeep hb6 hRq
  have hB6 := bstep hBq hBq.size hb6
  have hs6 : w5.heap.size < (w5.alloc (.cells (hc T.h (.slice a2 T.l.length cap2)) 29)).heap.size := by simp
  generalize w5.alloc (.cells (hc T.h (.slice a2 T.l.length cap2)) 29) = w6 at *
  generalize w5.heap.size = bz at *
  have hdM2 : (nats M.done).length ≤ 24 := by rw [nats_len]; exact hdM
  have hdT2 : (nats T.d).length ≤ 25 := by rw [nats_len]; omega
  have cY6 := cells_at hy6
  have htl := t.list
  have hto := fun k hk => t.ints.own (x := k) hk
  clear hb6 hb5 hx hy hp2 ho2 t
  replace hv6 := Lib.hid hv6
  replace ho6 := Lib.hid ho6
  replace hfb := Lib.hid hfb
  replace htl := Lib.hid htl
  replace hto := Lib.hid hto
  go_upto_region 64 with (first | go_skip | (at_builtin; refine wpList_append_ints rfl _ _ rfl w1.heap.size wq.heap.size (.slice al (nats M.done).length cl) v2 (nats M.done) (nats T.d) rfl rfl hv6.out ho6.out (by omega) (by omega) ?_; intro v3 w7 ho7 hgr7 hfr7; obtain ⟨a3, c3, rfl, _, _⟩ := ho7.at_; generalize (nats M.done ++ nats T.d).length = n3 at *; have hy7 := (hgr7.block (bx + 1) (hlt hy6) fun e => htl.out.2 e.symm).trans hy6; have fY := frozenAt hy7; have cY := cells_at hy7; have hset := hsetSame (i := 2) hy7 (.slice a3 n3 c3); replace hset := Lib.hid hset))
  have hZ7 := (hgr7.block bz (hlt hZ6) fun e => by have := ints_own_lt hv6.out e.symm; have := hto.out _ e.symm; exact absurd e.symm (by intro e'; obtain ⟨_, c', h'⟩ := owns_block' hv6.out.1 e'; rw [hZ6] at h'; injection Option.some.inj h' with _ ht _; exact absurd ht (by decide))).trans hZ6
  have hH7 := (hgr7.block _ (hlt hH6) fun e => by have := hto.out _ e.symm; omega).trans hH6
  have hR7 := (hgr7.block _ (hlt hR6) fun e => by have := hto.out _ e.symm; omega).trans hR6
  have hp7 := (only_grown hgr7).pays hp6 fun hl b off s e => (hfb.out hl b off s e).2.2.2
  have hB7 := hB6.grown hgr7 hB6.size fun k hk => by have := hto.out k hk; omega
  have hne3 : ∀ k, (Value.slice a3 n3 c3).ownBlock = some k → w1.heap.size ≤ k ∧ k ≠ bx + 1 ∧ ∀ (b off : Nat) (s : Option Nat), 0 < T.l.length → a2 = some ⟨b, off, s⟩ → k ≠ b := fun k hk => by
   rcases hfr7 k hk with h1 | h1
   ·exact ⟨hto.out k h1, fun e => htl.out.2 (e ▸ h1), fun b off s hl e e' => (hfb.out hl b off s e).2.2.2 (e' ▸ h1)⟩
   ·have hly := hlt hy6
    refine ⟨by omega, by omega, fun b off s hl e e' => ?_⟩
    obtain ⟨b', off', e2, hbl, _⟩ := hp6.row hl
    rw [e] at e2; cases e2; omega
  clear hgr7 hZ6 hH6 hR6 hp6 hB6 hy6 cY6 hv6 ho6 fY cY
  generalize hWs : World.setCell w7 _ _ = w8
  have hy8 : w8.heap[bx + 1]? = some (.cells (rc 0 M.n (.slice a3 n3 c3)) 44 (0, 0)) := by rw [← hWs]; exact hset.out
  have hZ8 : w8.heap[bz]? = some (.cells (hc T.h (.slice a2 T.l.length cap2)) 29 (0, 0)) := by rw [← hWs]; exact hsetOther hZ7 (by omega) _
  have hH8 : w8.heap[w.heap.size + 2]? = some (.cells (hc Hs.zero (.slice none 0 0)) 29 (0, 0)) := by rw [← hWs]; exact hsetOther hH7 (by omega) _
  have hR8 : w8.heap[w.heap.size + 3]? = some (.cells (rc 0 0 (.slice none 0 0)) 44 (0, 0)) := by rw [← hWs]; exact hsetOther hR7 (by omega) _
  have hp8 : PaysAt w8 a2 cap2 T.l := by rw [← hWs]; exact pay_set hp7 _ _ _ fun hl b off s e => (hfb.out hl b off s e).2.2.1
  have hB8 : Below w.heap.size w w8 := by rw [← hWs]; exact hB7.setCell (by show w.heap.size ≤ bx + 1; omega) _
  have ho8 : OwnInts w8 w.heap.size (.slice a3 n3 c3) (nats (M.done ++ T.d)) := by
   rw [nats_app, ← hWs]
   exact ⟨owns_only' (ho7.mono (by omega)).1 (only_set (bx + 1) 2 _ w7) fun x hx e => (hne3 x hx).2.1 e, ho7.2⟩
  replace ho8 := Lib.hid ho8
  replace hne3 := Lib.hid hne3
  clear hWs hset hZ7 hH7 hR7 hp7 hB7 hy7 ho7
  have hHd : w8.drew.heap[w.heap.size + 2]? = _ := hH8
  have hRd : w8.drew.heap[w.heap.size + 3]? = _ := hR8
  have hxd : w8.drew.heap[bz]? = some (.cells (hc T.h (.slice a2 T.l.length cap2)) 29 (0, 0)) := hZ8
  have hyd : w8.drew.heap[bx + 1]? = some (.cells (rc 0 M.n (.slice a3 n3 c3)) 44 (0, 0)) := hy8
  go_upto_region 64 with fail
  refine wpG_start (fun w' : World => w'.heap[bz]? = some (.cells (hc T.h (.slice a2 T.l.length cap2)) 29 (0, 0)) ∧ w'.heap[bx + 1]? = some (.cells (rc 0 M.n (.slice a3 n3 c3)) 44 (0, 0))) 3 (by kernel_rfl) ?_
  have hI0 : (fun w' : World => w'.heap[bz]? = some (.cells (hc T.h (.slice a2 T.l.length cap2)) 29 (0, 0)) ∧ w'.heap[bx + 1]? = some (.cells (rc 0 M.n (.slice a3 n3 c3)) 44 (0, 0))) w8.drew := ⟨hxd, hyd⟩
  refine wpG_put 347 (i := 0) (oi := _) (v := (.agg (hc T.h (.slice a2 T.l.length cap2)))) [0] rfl rfl (by kernel_rfl) (by kernel_rfl) (by kernel_rfl) (by kernel_rfl) (fun _ _ _ h => h) hI0 ?hy23 ?rs23
  case hy23 => exact yields_row 29 _ rfl rfl _ rfl _ _ _ _ (fun w' hb => hb.1) Try.underlying29 rfl info30
  (try simp only [Act.put, List.setIfInBounds_toArray, List.set_cons_succ, List.set_cons_zero])
  refine wpG_put 348 (i := 1) (oi := _) (v := (.agg (rc 0 M.n (.slice a3 n3 c3)))) [1] rfl rfl (by kernel_rfl) (by kernel_rfl) (by kernel_rfl) (by kernel_rfl) (fun _ _ _ h => h) hI0 ?hy24 ?rs24
  case hy24 => exact yields_row 44 _ rfl rfl _ rfl _ _ _ _ (fun w' hb => hb.2) Try.underlying44 rfl infoRp
  (try simp only [Act.put, List.setIfInBounds_toArray, List.set_cons_succ, List.set_cons_zero])
  clear hI0
  refine wpG_one (i := 2) (by kernel_rfl) rfl ?_
  go_wp2_with (first | go_skip | (refine st_row 29 _ _ rfl rfl _ rfl _ rfl _ _ hHd info30 rfl (hc_one _ _ rfl) ?_; intro wa hra hgra hsza))
  refine ⟨⟨(hgra.block _ (hlt hxd) (by simp; omega)).trans hxd, (hgra.block _ (hlt hyd) (by simp; omega)).trans hyd⟩, ?_⟩
  (try simp only [Act.put, List.setIfInBounds_toArray, List.set_cons_succ, List.set_cons_zero])
  refine wpG_drop 3 rfl (by kernel_rfl) ?_
  simp only [List.drop_succ_cons, List.drop_zero]
  go_wp2_with (first | go_skip | (refine st_row 44 _ _ rfl rfl _ rfl (rc 0 M.n (.slice a3 n3 c3)) rfl _ _ ((hgra.block _ (hlt hRd) (by simp)).trans hRd) infoRp rfl (rc_one _ _ _ rfl) ?_; intro wb hrb hgrb hszb))
  exact bodyPost_ret (results_hr rfl _ _ _ _ _ _ _ _ _ rfl rfl ((hgrb.block _ (hlt hra) (by simp)).trans hra) hrb) rfl (by rw [eX.out]; exact nexts_end (X := ⟨T.h, T.l, 0, M.n, M.done ++ T.d⟩) rfl hB8.drew hgra hgrb (hp8.below (Below.refl _ _).drew) (fun hl b off s e => by have hs := hfb.out hl b off s e; exact ⟨.inr (by omega), by omega, by omega, fun e' => (hne3.out b e').2.2 b off s hl e rfl⟩) (ho8.out.below (Below.refl _ _).drew) (fun k hk => by have h1 := (hne3.out k hk).1; omega))
end Go.Proofs.Ytggfdkkhlokmlab


