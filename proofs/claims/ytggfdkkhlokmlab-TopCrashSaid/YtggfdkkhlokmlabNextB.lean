/- bank.waiting; bank.next: revoke and class. -/
import Derived.Test.YtggfdkkhlokmlabNextC
set_option linter.unusedSimpArgs false
namespace Go.Proofs.Ytggfdkkhlokmlab
open Go.RowKit
attribute [local go_sem] hc_pays hc_next hc_size rc_0 rc_1 rc_2 rc_size dc_0 dc_1 dc_2 dc_3 dc_4 dc_size hc_cr hc_lim hc_has
theorem waitsAt_iff (l : List Pay) (n : Int) : waitsAt l n = true ↔ 0 ≤ n ∧ n < l.length ∧ (payAt l n.toNat).st = 1 := by simp [waitsAt]
set_option maxRecDepth 100000 in
set_option maxHeartbeats 400000 in
theorem waiting_yes (h : Hs) (l : List Pay) (a : Option Addr) (cap : Nat) (n : Int) (w : World) (hp : PaysAt w a cap l) (hw : waitsAt l n = true) :
  Calls Try.prog 79 #[.agg (hc h (.slice a l.length cap)), .int .i64 n] w fun e w' => e = .returned (.int .i64 0) ∧ Below w.heap.size w w' := by
 have hml : (l.length : Int) ≤ 9223372036854775807 := by have h1 := hp.le; have h2 := hp.capm; unfold maxLen at h2; omega
 have hA := hnew w (.cells (hc h (.slice a l.length cap)) 29)
 have hB := (Below.refl w.heap.size w).alloc (Nat.le_refl _) (.cells (hc h (.slice a l.length cap)) 29)
 have hp0 := hp.alloc (.cells (hc h (.slice a l.length cap)) 29)
 have cA := cells_at hA
 clear hA
 obtain ⟨n0, n1, hs⟩ := (waitsAt_iff _ _).1 hw
 have n0d : decide (n < 0) = false := decide_eq_false (by omega)
 obtain ⟨i, rfl⟩ : ∃ i : Nat, n = i := ⟨n.toNat, by omega⟩
 have n1d : decide ((l.length : Int) ≤ (i : Int)) = false := decide_eq_false (by omega)
 have hi : i < l.length := by omega
 have hpi := payAt_get hi
 obtain ⟨b, o, rfl, _, _⟩ := hp0.row (by omega)
 obtain ⟨x0, x1, x2, x3, x4, x5⟩ := hp0.six hpi
 clear x0 x1 x2 x3 x5 hp hp0 hw
 simp only [Int.toNat_natCast] at hs
 rw [hs] at x4
 replace hpi := Lib.hid hpi
 replace hs := Lib.hid hs
 go_enter Try.func79, Try.ntmps79
 go_wp2_with fail
 go_ret
 exact ⟨rfl, hB⟩
set_option maxRecDepth 100000 in
set_option maxHeartbeats 400000 in
theorem waiting_no (h : Hs) (l : List Pay) (a : Option Addr) (cap : Nat) (n : Int) (w : World) (hp : PaysAt w a cap l) (hw : waitsAt l n = false) :
  Calls Try.prog 79 #[.agg (hc h (.slice a l.length cap)), .int .i64 n] w fun e w' => e = .returned (.int .i64 4) ∧ Below w.heap.size w w' := by
 have hml : (l.length : Int) ≤ 9223372036854775807 := by have h1 := hp.le; have h2 := hp.capm; unfold maxLen at h2; omega
 have hA := hnew w (.cells (hc h (.slice a l.length cap)) 29)
 have hB := (Below.refl w.heap.size w).alloc (Nat.le_refl _) (.cells (hc h (.slice a l.length cap)) 29)
 have hp0 := hp.alloc (.cells (hc h (.slice a l.length cap)) 29)
 have cA := cells_at hA
 have hw2 : ¬ (0 ≤ n ∧ n < l.length ∧ (payAt l n.toNat).st = 1) := fun e => by rw [(waitsAt_iff _ _).2 e] at hw; cases hw
 clear hA hw
 by_cases n0 : n < 0
 ·have n0d : decide (n < 0) = true := decide_eq_true n0
  clear hp hp0 hw2
  go_enter Try.func79, Try.ntmps79
  go_wp2_with fail
  go_ret
  exact ⟨rfl, hB⟩
 ·have n0d : decide (n < 0) = false := decide_eq_false n0
  by_cases n1 : n < l.length
  ·obtain ⟨i, rfl⟩ : ∃ i : Nat, n = i := ⟨n.toNat, by omega⟩
   have n1d : decide ((l.length : Int) ≤ (i : Int)) = false := decide_eq_false (by omega)
   have hi : i < l.length := by omega
   have hpi := payAt_get hi
   obtain ⟨b, o, rfl, _, _⟩ := hp0.row (by omega)
   obtain ⟨x0, x1, x2, x3, x4, x5⟩ := hp0.six hpi
   have hs : (payAt l i).st ≠ 1 := fun e => hw2 ⟨by omega, n1, by simpa using e⟩
   clear x0 x1 x2 x3 x5 hp hp0 hw2
   replace hpi := Lib.hid hpi
   obtain ⟨st, hst⟩ : ∃ st, (payAt l i).st = st := ⟨_, rfl⟩
   rw [hst] at x4 hs
   have hs1 : (st == 1) = false := by rw [beq_eq_false_iff_ne]; exact hs
   have hs2 : (st != 1) = true := by simp [hs]
   replace hst := Lib.hid hst
   go_enter Try.func79, Try.ntmps79
   go_wp2_with fail
   go_ret
   exact ⟨rfl, hB⟩
  ·have n1d : decide ((l.length : Int) ≤ n) = true := decide_eq_true (by omega)
   clear hp hp0 hw2
   go_enter Try.func79, Try.ntmps79
   go_wp2_with fail
   go_ret
   exact ⟨rfl, hB⟩
set_option maxRecDepth 100000 in
set_option maxHeartbeats 400000 in
theorem next_revoke_no1 (h : Hs) (l : List Pay) (v0 : Value) (a b c n : Int) (w : World) (hown : OwnPays w 0 v0 l) (g : GoodP h l) (e1 : waitsAt l a = false) :
  Calls Try.prog 61 #[.agg (hc h v0), .agg (dc ⟨2, a, b, c, n⟩)] w (NextPost v0 (.err h l 4) w) := by
 replace e1 := Lib.hid e1
 obtain ⟨a0, cap0, rfl, hp, hpb⟩ := hown.at_
 have hpl : 0 < l.length → ∀ b off s, a0 = some ⟨b, off, s⟩ → b < w.heap.size := fun hl b off s e => by
  obtain ⟨b', off', e', hbl, _⟩ := hp.row hl
  rw [e] at e'; cases e'; exact hbl
 have hlen := g.len
 have hroom := g.room
 replace hp := Lib.hid hp
 replace hpb := Lib.hid hpb
 replace hpl := Lib.hid hpl
 replace hown := Lib.hid hown
 go_enter Try.func61, Try.ntmps61
 go_upto_region 1 with fail
 generalize hW : World.alloc (World.alloc (World.alloc (World.alloc w _) _) _) _ = W0
 obtain ⟨hA, hD, hH, hR, hB⟩ : W0.heap[w.heap.size]? = some (.cells (hc h (.slice a0 l.length cap0)) 29 (0, 0)) ∧ W0.heap[w.heap.size + 1]? = some (.cells (dc ⟨2, a, b, c, n⟩) 40 (0, 0)) ∧ W0.heap[w.heap.size + 2]? = some (.cells (hc Hs.zero (.slice none 0 0)) 29 (0, 0)) ∧ W0.heap[w.heap.size + 3]? = some (.cells (rc 0 0 (.slice none 0 0)) 44 (0, 0)) ∧ Below w.heap.size w W0 := by rw [← hW]; exact four4 w _ _ _ _
 have hp0 := hp.out.below hB
 have cA := cells_at hA
 have cD := cells_at hD
 clear hW
 go_wp2_with (first | go_skip | (refine ld_row 29 _ rfl rfl _ rfl _ _ _ _ hA Try.underlying29 rfl info30 ?_) | (go_at_call 79; refine (waiting_no h l a0 cap0 a _ hp0 e1.out).mono ?_; rintro e w1 ⟨rfl, hb1⟩) | (go_at_call 78; refine (nextNo_any h _ rfl 4 w.heap.size _ (hkeep hb1 hA)).mono ?_; rintro e wn ⟨rfl, hbn⟩) | (refine st_row 29 _ _ rfl rfl _ rfl _ rfl _ _ (hkeep hbn (hkeep hb1 hH)) info30 rfl (hc_one _ _ rfl) ?_; intro wa hra hgra hsza) | (refine st_row 44 _ _ rfl rfl _ rfl (rc 4 0 (.slice none 0 0)) rfl _ _ ((hgra.block _ (hlt (hkeep hbn (hkeep hb1 hR))) (by simp)).trans (hkeep hbn (hkeep hb1 hR))) infoRp rfl (rc_one _ _ _ rfl) ?_; intro wb hrb hgrb hszb))
 have hB1 := bstep hB hB.size hb1
 have hp1 := hp0.below hb1
 have hR1 := hkeep hb1 hR
 have hBn := bstep hB1 hB1.size hbn
 have hzn := Nat.le_trans (hlt hR1) hbn.size
 exact bodyPost_ret (results_hr rfl _ _ _ _ _ _ _ _ _ rfl rfl ((hgrb.block _ (hlt hra) (by simp)).trans hra) hrb) rfl (next_end (X := .err h l 4) rfl (only_new hBn) hzn hgra hgrb ((hp1).below hbn) (fun hl b off s e => ⟨.inl (by rw [e]; rfl), by have := hpl.out hl b off s e; omega, by have := hpl.out hl b off s e; omega, by simp [Value.ownBlock]⟩) (OwnInts.nil _ _) (fun x hx => by simp [Value.ownBlock] at hx))
set_option maxRecDepth 100000 in
set_option maxHeartbeats 400000 in
theorem next_class_no1 (h : Hs) (l : List Pay) (v0 : Value) (a b c n : Int) (w : World) (hown : OwnPays w 0 v0 l) (g : GoodP h l) (e1 : waitsAt l a = false) :
  Calls Try.prog 61 #[.agg (hc h v0), .agg (dc ⟨3, a, b, c, n⟩)] w (NextPost v0 (.err h l 4) w) := by
 replace e1 := Lib.hid e1
 obtain ⟨a0, cap0, rfl, hp, hpb⟩ := hown.at_
 have hpl : 0 < l.length → ∀ b off s, a0 = some ⟨b, off, s⟩ → b < w.heap.size := fun hl b off s e => by
  obtain ⟨b', off', e', hbl, _⟩ := hp.row hl
  rw [e] at e'; cases e'; exact hbl
 have hlen := g.len
 have hroom := g.room
 replace hp := Lib.hid hp
 replace hpb := Lib.hid hpb
 replace hpl := Lib.hid hpl
 replace hown := Lib.hid hown
 go_enter Try.func61, Try.ntmps61
 go_upto_region 1 with fail
 generalize hW : World.alloc (World.alloc (World.alloc (World.alloc w _) _) _) _ = W0
 obtain ⟨hA, hD, hH, hR, hB⟩ : W0.heap[w.heap.size]? = some (.cells (hc h (.slice a0 l.length cap0)) 29 (0, 0)) ∧ W0.heap[w.heap.size + 1]? = some (.cells (dc ⟨3, a, b, c, n⟩) 40 (0, 0)) ∧ W0.heap[w.heap.size + 2]? = some (.cells (hc Hs.zero (.slice none 0 0)) 29 (0, 0)) ∧ W0.heap[w.heap.size + 3]? = some (.cells (rc 0 0 (.slice none 0 0)) 44 (0, 0)) ∧ Below w.heap.size w W0 := by rw [← hW]; exact four4 w _ _ _ _
 have hp0 := hp.out.below hB
 have cA := cells_at hA
 have cD := cells_at hD
 clear hW
 go_wp2_with (first | go_skip | (refine ld_row 29 _ rfl rfl _ rfl _ _ _ _ hA Try.underlying29 rfl info30 ?_) | (go_at_call 79; refine (waiting_no h l a0 cap0 a _ hp0 e1.out).mono ?_; rintro e w1 ⟨rfl, hb1⟩) | (go_at_call 78; refine (nextNo_any h _ rfl 4 w.heap.size _ (hkeep hb1 hA)).mono ?_; rintro e wn ⟨rfl, hbn⟩) | (refine st_row 29 _ _ rfl rfl _ rfl _ rfl _ _ (hkeep hbn (hkeep hb1 hH)) info30 rfl (hc_one _ _ rfl) ?_; intro wa hra hgra hsza) | (refine st_row 44 _ _ rfl rfl _ rfl (rc 4 0 (.slice none 0 0)) rfl _ _ ((hgra.block _ (hlt (hkeep hbn (hkeep hb1 hR))) (by simp)).trans (hkeep hbn (hkeep hb1 hR))) infoRp rfl (rc_one _ _ _ rfl) ?_; intro wb hrb hgrb hszb))
 have hB1 := bstep hB hB.size hb1
 have hp1 := hp0.below hb1
 have hR1 := hkeep hb1 hR
 have hBn := bstep hB1 hB1.size hbn
 have hzn := Nat.le_trans (hlt hR1) hbn.size
 exact bodyPost_ret (results_hr rfl _ _ _ _ _ _ _ _ _ rfl rfl ((hgrb.block _ (hlt hra) (by simp)).trans hra) hrb) rfl (next_end (X := .err h l 4) rfl (only_new hBn) hzn hgra hgrb ((hp1).below hbn) (fun hl b off s e => ⟨.inl (by rw [e]; rfl), by have := hpl.out hl b off s e; omega, by have := hpl.out hl b off s e; omega, by simp [Value.ownBlock]⟩) (OwnInts.nil _ _) (fun x hx => by simp [Value.ownBlock] at hx))
set_option maxRecDepth 100000 in
set_option maxHeartbeats 400000 in
theorem next_class_no2 (h : Hs) (l : List Pay) (v0 : Value) (a b c n : Int) (w : World) (hown : OwnPays w 0 v0 l) (g : GoodP h l) (e1 : waitsAt l a = true) (e2 : sm 0 c 2 = false) :
  Calls Try.prog 61 #[.agg (hc h v0), .agg (dc ⟨3, a, b, c, n⟩)] w (NextPost v0 (.err h l 3) w) := by
 replace e1 := Lib.hid e1
 replace e2 := Lib.hid e2
 obtain ⟨a0, cap0, rfl, hp, hpb⟩ := hown.at_
 have hpl : 0 < l.length → ∀ b off s, a0 = some ⟨b, off, s⟩ → b < w.heap.size := fun hl b off s e => by
  obtain ⟨b', off', e', hbl, _⟩ := hp.row hl
  rw [e] at e'; cases e'; exact hbl
 have hlen := g.len
 have hroom := g.room
 replace hp := Lib.hid hp
 replace hpb := Lib.hid hpb
 replace hpl := Lib.hid hpl
 replace hown := Lib.hid hown
 go_enter Try.func61, Try.ntmps61
 go_upto_region 1 with fail
 generalize hW : World.alloc (World.alloc (World.alloc (World.alloc w _) _) _) _ = W0
 obtain ⟨hA, hD, hH, hR, hB⟩ : W0.heap[w.heap.size]? = some (.cells (hc h (.slice a0 l.length cap0)) 29 (0, 0)) ∧ W0.heap[w.heap.size + 1]? = some (.cells (dc ⟨3, a, b, c, n⟩) 40 (0, 0)) ∧ W0.heap[w.heap.size + 2]? = some (.cells (hc Hs.zero (.slice none 0 0)) 29 (0, 0)) ∧ W0.heap[w.heap.size + 3]? = some (.cells (rc 0 0 (.slice none 0 0)) 44 (0, 0)) ∧ Below w.heap.size w W0 := by rw [← hW]; exact four4 w _ _ _ _
 have hp0 := hp.out.below hB
 have cA := cells_at hA
 have cD := cells_at hD
 clear hW
 go_wp2_with (first | go_skip | (refine ld_row 29 _ rfl rfl _ rfl _ _ _ _ hA Try.underlying29 rfl info30 ?_) | (go_at_call 79; refine (waiting_yes h l a0 cap0 a _ hp0 e1.out).mono ?_; rintro e w1 ⟨rfl, hb1⟩; have cD1 := cells_at (hkeep hb1 hD); have cA1 := cells_at (hkeep hb1 hA)) | (go_at_call 54; refine (in_any _ _ _ _).mono ?_; rintro e w' ⟨rfl, rfl⟩; first | rw [e2.out]) | (go_at_call 78; refine (nextNo_any h _ rfl 3 w.heap.size _ (hkeep hb1 hA)).mono ?_; rintro e wn ⟨rfl, hbn⟩) | (refine st_row 29 _ _ rfl rfl _ rfl _ rfl _ _ (hkeep hbn (hkeep hb1 hH)) info30 rfl (hc_one _ _ rfl) ?_; intro wa hra hgra hsza) | (refine st_row 44 _ _ rfl rfl _ rfl (rc 3 0 (.slice none 0 0)) rfl _ _ ((hgra.block _ (hlt (hkeep hbn (hkeep hb1 hR))) (by simp)).trans (hkeep hbn (hkeep hb1 hR))) infoRp rfl (rc_one _ _ _ rfl) ?_; intro wb hrb hgrb hszb))
 have hB1 := bstep hB hB.size hb1
 have hp1 := hp0.below hb1
 have hR1 := hkeep hb1 hR
 have hBn := bstep hB1 hB1.size hbn
 have hzn := Nat.le_trans (hlt hR1) hbn.size
 exact bodyPost_ret (results_hr rfl _ _ _ _ _ _ _ _ _ rfl rfl ((hgrb.block _ (hlt hra) (by simp)).trans hra) hrb) rfl (next_end (X := .err h l 3) rfl (only_new hBn) hzn hgra hgrb ((hp1).below hbn) (fun hl b off s e => ⟨.inl (by rw [e]; rfl), by have := hpl.out hl b off s e; omega, by have := hpl.out hl b off s e; omega, by simp [Value.ownBlock]⟩) (OwnInts.nil _ _) (fun x hx => by simp [Value.ownBlock] at hx))
set_option maxRecDepth 100000 in
set_option maxHeartbeats 400000 in
theorem next_class_no3 (h : Hs) (l : List Pay) (v0 : Value) (a b c n : Int) (w : World) (hown : OwnPays w 0 v0 l) (g : GoodP h l) (e1 : waitsAt l a = true) (e2 : sm 0 c 2 = true) (e3 : 1048576 ≤ h.next) :
  Calls Try.prog 61 #[.agg (hc h v0), .agg (dc ⟨3, a, b, c, n⟩)] w (NextPost v0 (.err h l 5) w) := by
 replace e1 := Lib.hid e1
 replace e2 := Lib.hid e2
 obtain ⟨a0, cap0, rfl, hp, hpb⟩ := hown.at_
 have hpl : 0 < l.length → ∀ b off s, a0 = some ⟨b, off, s⟩ → b < w.heap.size := fun hl b off s e => by
  obtain ⟨b', off', e', hbl, _⟩ := hp.row hl
  rw [e] at e'; cases e'; exact hbl
 have hlen := g.len
 have hroom := g.room
 replace hp := Lib.hid hp
 replace hpb := Lib.hid hpb
 replace hpl := Lib.hid hpl
 replace hown := Lib.hid hown
 go_enter Try.func61, Try.ntmps61
 go_upto_region 1 with fail
 generalize hW : World.alloc (World.alloc (World.alloc (World.alloc w _) _) _) _ = W0
 obtain ⟨hA, hD, hH, hR, hB⟩ : W0.heap[w.heap.size]? = some (.cells (hc h (.slice a0 l.length cap0)) 29 (0, 0)) ∧ W0.heap[w.heap.size + 1]? = some (.cells (dc ⟨3, a, b, c, n⟩) 40 (0, 0)) ∧ W0.heap[w.heap.size + 2]? = some (.cells (hc Hs.zero (.slice none 0 0)) 29 (0, 0)) ∧ W0.heap[w.heap.size + 3]? = some (.cells (rc 0 0 (.slice none 0 0)) 44 (0, 0)) ∧ Below w.heap.size w W0 := by rw [← hW]; exact four4 w _ _ _ _
 have hp0 := hp.out.below hB
 have cA := cells_at hA
 have cD := cells_at hD
 clear hW
 go_wp2_with (first | go_skip | (refine ld_row 29 _ rfl rfl _ rfl _ _ _ _ hA Try.underlying29 rfl info30 ?_) | (go_at_call 79; refine (waiting_yes h l a0 cap0 a _ hp0 e1.out).mono ?_; rintro e w1 ⟨rfl, hb1⟩; have cD1 := cells_at (hkeep hb1 hD); have cA1 := cells_at (hkeep hb1 hA)) | (go_at_call 54; refine (in_any _ _ _ _).mono ?_; rintro e w' ⟨rfl, rfl⟩; first | rw [e2.out]) | (go_at_call 78; refine (nextNo_any h _ rfl 5 w.heap.size _ (hkeep hb1 hA)).mono ?_; rintro e wn ⟨rfl, hbn⟩) | (refine st_row 29 _ _ rfl rfl _ rfl _ rfl _ _ (hkeep hbn (hkeep hb1 hH)) info30 rfl (hc_one _ _ rfl) ?_; intro wa hra hgra hsza) | (refine st_row 44 _ _ rfl rfl _ rfl (rc 5 0 (.slice none 0 0)) rfl _ _ ((hgra.block _ (hlt (hkeep hbn (hkeep hb1 hR))) (by simp)).trans (hkeep hbn (hkeep hb1 hR))) infoRp rfl (rc_one _ _ _ rfl) ?_; intro wb hrb hgrb hszb))
 have hB1 := bstep hB hB.size hb1
 have hp1 := hp0.below hb1
 have hR1 := hkeep hb1 hR
 have hBn := bstep hB1 hB1.size hbn
 have hzn := Nat.le_trans (hlt hR1) hbn.size
 exact bodyPost_ret (results_hr rfl _ _ _ _ _ _ _ _ _ rfl rfl ((hgrb.block _ (hlt hra) (by simp)).trans hra) hrb) rfl (next_end (X := .err h l 5) rfl (only_new hBn) hzn hgra hgrb ((hp1).below hbn) (fun hl b off s e => ⟨.inl (by rw [e]; rfl), by have := hpl.out hl b off s e; omega, by have := hpl.out hl b off s e; omega, by simp [Value.ownBlock]⟩) (OwnInts.nil _ _) (fun x hx => by simp [Value.ownBlock] at hx))
theorem gone_pc {p : Pay} : ∀ k v, (pc p.gone)[k]? = some v → (k = 4 ∧ v = .int .i64 3) ∨ (k ≠ 4 ∧ (pc p)[k]? = some v) := by
 intro k v hv
 have hk : k < 6 := (Array.getElem?_eq_some_iff.1 hv).1
 rcases k with _ | _ | _ | _ | _ | _ | k
 ·exact .inr ⟨by omega, hv⟩
 ·exact .inr ⟨by omega, hv⟩
 ·exact .inr ⟨by omega, hv⟩
 ·exact .inr ⟨by omega, hv⟩
 ·left; exact ⟨rfl, by simpa [pc, Pay.gone] using hv.symm⟩
 ·exact .inr ⟨by omega, hv⟩
 ·omega
set_option maxRecDepth 100000 in
set_option maxHeartbeats 400000 in
theorem next_revoke_yes (h : Hs) (l : List Pay) (v0 : Value) (a b c n : Int) (w : World) (hown : OwnPays w 0 v0 l) (g : GoodP h l) (e1 : waitsAt l a = true) :
  Calls Try.prog 61 #[.agg (hc h v0), .agg (dc ⟨2, a, b, c, n⟩)] w (NextPost v0 (⟨h, l.set a.toNat (payAt l a.toNat).gone, 0, 0, []⟩) w) := by
 obtain ⟨hi0, hst, hap⟩ := waitsAt_true e1
 obtain ⟨i, rfl⟩ : ∃ i : Nat, a = i := ⟨a.toNat, by omega⟩
 simp only [Int.toNat_natCast] at hi0 hst ⊢
 replace e1 := Lib.hid e1
 obtain ⟨gg, cap, cur, rfl, hbg, hgg, hlc, hcm, hcs, hcur⟩ := hown.row (by omega)
 obtain ⟨a0, cap0, e0, hp, hpb⟩ := hown.at_
 simp only [Value.slice.injEq] at e0
 obtain ⟨rfl, -, rfl⟩ := e0
 have hpl : 0 < l.length → ∀ b off s, (some (⟨gg, 0, none⟩ : Addr)) = some ⟨b, off, s⟩ → b < w.heap.size := fun hl b off s e => by
  obtain ⟨b', off', e', hbl, _⟩ := hp.row hl
  rw [e] at e'; cases e'; exact hbl
 have hlen := g.len
 have hroom := g.room
 have hpi := payAt_get hi0
 have hgl := hlt hgg
 have hii : (i : Int) < (l.length : Int) := by omega
 have hml : (l.length : Int) ≤ 9223372036854775807 := by omega
 replace hgg := Lib.hid hgg
 replace hcur := Lib.hid hcur
 replace hpi := Lib.hid hpi
 replace hp := Lib.hid hp
 replace hpb := Lib.hid hpb
 replace hpl := Lib.hid hpl
 replace hown := Lib.hid hown
 go_enter Try.func61, Try.ntmps61
 go_upto_region 1 with fail
 generalize hW : World.alloc (World.alloc (World.alloc (World.alloc w _) _) _) _ = W0
 obtain ⟨hA, hD, hH, hR, hB⟩ : W0.heap[w.heap.size]? = some (.cells (hc h (.slice (some (⟨gg, 0, none⟩ : Addr)) l.length cap)) 29 (0, 0)) ∧ W0.heap[w.heap.size + 1]? = some (.cells (dc ⟨2, (i : Int), b, c, n⟩) 40 (0, 0)) ∧ W0.heap[w.heap.size + 2]? = some (.cells (hc Hs.zero (.slice none 0 0)) 29 (0, 0)) ∧ W0.heap[w.heap.size + 3]? = some (.cells (rc 0 0 (.slice none 0 0)) 44 (0, 0)) ∧ Below w.heap.size w W0 := by rw [← hW]; exact four4 w _ _ _ _
 have hp0 := hp.out.below hB
 have cA := cells_at hA
 have cD := cells_at hD
 clear hW
 have hG0 := hkeep hB hgg.out
 have hx4 : cur[i * 6 + 4]? = some (.int .i64 (payAt l i).st) := hcur.out i _ hpi.out 4 _ (pc_4 _)
 replace hst := Lib.hid hst
 go_upto_region 60 with (first | go_skip | (refine ld_row 29 _ rfl rfl _ rfl _ _ _ _ hA Try.underlying29 rfl info30 ?_) | (go_at_call 79; refine (waiting_yes h l _ cap (i : Int) _ hp0 e1.out).mono ?_; rintro e w1 ⟨rfl, hb1⟩; have cD1 := cells_at (hkeep hb1 hD); have cA1 := cells_at (hkeep hb1 hA); have hG1 := hkeep hb1 hG0; have fG := frozenAt hG1; have cG := cells_at hG1))
 have hset := hsetSame (i := i * 6 + 4) hG1 (.int .i64 3)
 have hA1 := hkeep hb1 hA
 have hH1 := hkeep hb1 hH
 have hR1 := hkeep hb1 hR
 generalize hWs : World.setCell w1 _ _ = Ws
 have hA2 : Ws.heap[w.heap.size]? = some (.cells (hc h (.slice (some ⟨gg, 0, none⟩) l.length cap)) 29 (0, 0)) := by rw [← hWs]; exact hsetOther hA1 (by omega) _
 have hH2 : Ws.heap[w.heap.size + 2]? = some (.cells (hc Hs.zero (.slice none 0 0)) 29 (0, 0)) := by rw [← hWs]; exact hsetOther hH1 (by omega) _
 have hR2 : Ws.heap[w.heap.size + 3]? = some (.cells (rc 0 0 (.slice none 0 0)) 44 (0, 0)) := by rw [← hWs]; exact hsetOther hR1 (by omega) _
 have hB2 : Only (fun b => (Value.slice (some (⟨gg, 0, none⟩ : Addr)) l.length cap).ownBlock = some b) w Ws := by rw [← hWs]; exact (only_new (bstep hB hB.size hb1)).step (only_set gg _ _ _) fun b e => .inl (by rw [e]; rfl)
 have hG2 : Ws.heap[gg]? = some (.cells (cur.setIfInBounds (i * 6 + 4) (.int .i64 3)) 70 (0, 0)) := by rw [← hWs]; simpa using hset
 have hp2 : PaysAt Ws (some ⟨gg, 0, none⟩) cap (l.set i (payAt l i).gone) := PaysAt.of_row hG2 (by rw [List.length_set]; exact hlc) hcm (by rw [List.length_set]; omega) (row_set hcur.out hi0 (by omega) gone_pc)
 clear hWs hset fG cG cD1 cA1 hA1 hH1 hR1 hG1 cA cD hA hD hH hR hB hp0 hb1 hx4 hG2
 go_wp2_with (first | go_skip | (refine ld_row 29 _ rfl rfl _ rfl _ _ _ _ hA2 Try.underlying29 rfl info30 ?_) | (refine st_row 29 _ _ rfl rfl _ rfl _ rfl _ _ hH2 info30 rfl (hc_one _ _ rfl) ?_; intro wa hra hgra hsza) | (refine st_row 44 _ _ rfl rfl _ rfl (rc 0 0 (.slice none 0 0)) rfl _ _ ((hgra.block _ (hlt hR2) (by simp)).trans hR2) infoRp rfl (rc_one _ _ _ rfl) ?_; intro wb hrb hgrb hszb))
 exact bodyPost_ret (results_hr rfl _ _ _ _ _ _ _ _ _ rfl rfl ((hgrb.block _ (hlt hra) (by simp)).trans hra) hrb) rfl (next_end (X := ⟨h, l.set i (payAt l i).gone, 0, 0, []⟩) (by simp only [List.length_set]) hB2 (hlt hR2) hgra hgrb hp2 (fun hl b off s e => ⟨.inl (by cases e; rfl), by cases e; omega, by cases e; omega, by simp [Value.ownBlock]⟩) (OwnInts.nil _ _) (fun x hx => by simp [Value.ownBlock] at hx))
theorem hc_setNext (h : Hs) (s : Value) (v : Int) : (hc h s).setIfInBounds 41 (.int .i64 v) = hc (h.setNext v) s := rfl
theorem last_row {cur : Array Value} {l : List Pay} {i : Nat} {c s : Int} (hcur : ∀ j p, l[j]? = some p → ∀ k v, (pc p)[k]? = some v → cur[j * 6 + k]? = some v) (hi : i < l.length) :
  ∀ j p, (l.set i ((payAt l i).last c s))[j]? = some p → ∀ k v, (pc p)[k]? = some v → ((cur.setIfInBounds (i * 6 + 3) (.int .i64 c)).setIfInBounds (i * 6 + 5) (.int .i64 s))[j * 6 + k]? = some v := by
 have h1 := row_set (f := 3) (q := { payAt l i with cls := c }) (u := .int .i64 c) hcur hi (by omega) (fun k v hv => by
  have hk : k < 6 := (Array.getElem?_eq_some_iff.1 hv).1
  rcases k with _ | _ | _ | _ | _ | _ | k
  ·exact .inr ⟨by omega, hv⟩
  ·exact .inr ⟨by omega, hv⟩
  ·exact .inr ⟨by omega, hv⟩
  ·left; exact ⟨rfl, by simpa [pc] using hv.symm⟩
  ·exact .inr ⟨by omega, hv⟩
  ·exact .inr ⟨by omega, hv⟩
  ·omega)
 have e : payAt (l.set i { payAt l i with cls := c }) i = { payAt l i with cls := c } := payAt_some (by simp [hi])
 have h2 := row_set (f := 5) (q := (payAt l i).last c s) (u := .int .i64 s) h1 (by rw [List.length_set]; exact hi) (by omega) (fun k v hv => by
  rw [e]
  have hk : k < 6 := (Array.getElem?_eq_some_iff.1 hv).1
  rcases k with _ | _ | _ | _ | _ | _ | k
  ·exact .inr ⟨by omega, hv⟩
  ·exact .inr ⟨by omega, hv⟩
  ·exact .inr ⟨by omega, hv⟩
  ·exact .inr ⟨by omega, hv⟩
  ·exact .inr ⟨by omega, hv⟩
  ·left; exact ⟨rfl, by simpa [pc, Pay.last] using hv.symm⟩
  ·omega)
 rw [List.set_set] at h2
 exact h2
set_option maxRecDepth 100000 in
set_option maxHeartbeats 400000 in
theorem next_class_yes (h : Hs) (l : List Pay) (v0 : Value) (a b c n : Int) (w : World) (hown : OwnPays w 0 v0 l) (g : GoodP h l) (e1 : waitsAt l a = true) (e2 : sm 0 c 2 = true) (e3 : h.next < 1048576) :
  Calls Try.prog 61 #[.agg (hc h v0), .agg (dc ⟨3, a, b, c, n⟩)] w (NextPost v0 (⟨h.setNext (h.next + 1), l.set a.toNat ((payAt l a.toNat).last c h.next), 0, 0, []⟩) w) := by
 obtain ⟨hi0, hst, hap⟩ := waitsAt_true e1
 obtain ⟨i, rfl⟩ : ∃ i : Nat, a = i := ⟨a.toNat, by omega⟩
 simp only [Int.toNat_natCast] at hi0 hst ⊢
 have hn0 := (sm_true g.next).1
 replace e1 := Lib.hid e1
 replace e2 := Lib.hid e2
 obtain ⟨gg, cap, cur, rfl, hbg, hgg, hlc, hcm, hcs, hcur⟩ := hown.row (by omega)
 obtain ⟨a0, cap0, e0, hp, hpb⟩ := hown.at_
 simp only [Value.slice.injEq] at e0
 obtain ⟨rfl, -, rfl⟩ := e0
 have hpl : 0 < l.length → ∀ b off s, (some (⟨gg, 0, none⟩ : Addr)) = some ⟨b, off, s⟩ → b < w.heap.size := fun hl b off s e => by
  obtain ⟨b', off', e', hbl, _⟩ := hp.row hl
  rw [e] at e'; cases e'; exact hbl
 have hlen := g.len
 have hroom := g.room
 have hpi := payAt_get hi0
 have hgl := hlt hgg
 have hii : (i : Int) < (l.length : Int) := by omega
 have hml : (l.length : Int) ≤ 9223372036854775807 := by omega
 replace hgg := Lib.hid hgg
 replace hcur := Lib.hid hcur
 replace hpi := Lib.hid hpi
 replace hp := Lib.hid hp
 replace hpb := Lib.hid hpb
 replace hpl := Lib.hid hpl
 replace hown := Lib.hid hown
 go_enter Try.func61, Try.ntmps61
 go_upto_region 1 with fail
 generalize hW : World.alloc (World.alloc (World.alloc (World.alloc w _) _) _) _ = W0
 obtain ⟨hA, hD, hH, hR, hB⟩ : W0.heap[w.heap.size]? = some (.cells (hc h (.slice (some (⟨gg, 0, none⟩ : Addr)) l.length cap)) 29 (0, 0)) ∧ W0.heap[w.heap.size + 1]? = some (.cells (dc ⟨3, (i : Int), b, c, n⟩) 40 (0, 0)) ∧ W0.heap[w.heap.size + 2]? = some (.cells (hc Hs.zero (.slice none 0 0)) 29 (0, 0)) ∧ W0.heap[w.heap.size + 3]? = some (.cells (rc 0 0 (.slice none 0 0)) 44 (0, 0)) ∧ Below w.heap.size w W0 := by rw [← hW]; exact four4 w _ _ _ _
 have hp0 := hp.out.below hB
 have cA := cells_at hA
 have cD := cells_at hD
 clear hW
 have hG0 := hkeep hB hgg.out
 have hne1 : gg ≠ w.heap.size := by omega
 replace hst := Lib.hid hst
 go_upto_region 26 with (first | go_skip | (refine ld_row 29 _ rfl rfl _ rfl _ _ _ _ hA Try.underlying29 rfl info30 ?_) | (go_at_call 79; refine (waiting_yes h l _ cap (i : Int) _ hp0 e1.out).mono ?_; rintro e w1 ⟨rfl, hb1⟩; have cD1 := cells_at (hkeep hb1 hD); have cA1 := cells_at (hkeep hb1 hA); have hG1 := hkeep hb1 hG0) | (go_at_call 54; refine (in_any _ _ _ _).mono ?_; rintro e w' ⟨rfl, rfl⟩; first | rw [e2.out]))
 have hA1 := hkeep hb1 hA
 have hD1 := hkeep hb1 hD
 have hH1 := hkeep hb1 hH
 have hR1 := hkeep hb1 hR
 have hB1 := bstep hB hB.size hb1
 clear cA cD cD1 cA1 hA hD hH hR hB hp0 hb1 hG0
 have hcI : ∀ w' : World, (w'.heap[w.heap.size]? = some (.cells (hc h (.slice (some ⟨gg, 0, none⟩) l.length cap)) 29 (0, 0)) ∧ w'.heap[w.heap.size + 1]? = some (.cells (dc ⟨3, (i : Int), b, c, n⟩) 40 (0, 0))) → w'.cell? ⟨w.heap.size, 40, none⟩ = some (.slice (some ⟨gg, 0, none⟩) l.length cap) ∧ w'.cell? ⟨w.heap.size + 1, 1, none⟩ = some (.int .i64 (i : Int)) ∧ w'.cell? ⟨w.heap.size + 1, 3, none⟩ = some (.int .i64 c) ∧ w'.cell? ⟨w.heap.size, 41, none⟩ = some (.int .i64 h.next) := fun w' hb =>
  ⟨cells_at hb.1 40, cells_at hb.2 1, cells_at hb.2 3, cells_at hb.1 41⟩
 have hx3 : cur[i * 6 + 3]? = some (.int .i64 (payAt l i).cls) := hcur.out i _ hpi.out 3 _ (pc_3 _)
 have hx5 : cur[i * 6 + 5]? = some (.int .i64 (payAt l i).seq) := hcur.out i _ hpi.out 5 _ (pc_5 _)
 have fG := frozenAt hG1
 have cG3 : w1.cell? ⟨gg, i * 6 + 3, none⟩ = some (.int .i64 (payAt l i).cls) := (cells_at hG1 _).trans hx3
 have cG5 : w1.cell? ⟨gg, i * 6 + 5, none⟩ = some (.int .i64 (payAt l i).seq) := (cells_at hG1 _).trans hx5
 have hs1 := hsetSame (i := i * 6 + 3) hG1 (.int .i64 c)
 have hs2 := hsetSame (i := i * 6 + 5) hs1 (.int .i64 h.next)
 have hA3 := hsetOther (i := i * 6 + 3) hA1 (by omega : w.heap.size ≠ gg) (.int .i64 c)
 have hD3 := hsetOther (i := i * 6 + 3) hD1 (by omega : w.heap.size + 1 ≠ gg) (.int .i64 c)
 clear hx3 hx5
 replace hcI := Lib.hid hcI
 replace hs1 := Lib.hid hs1
 replace hs2 := Lib.hid hs2
 replace hA3 := Lib.hid hA3
 replace hD3 := Lib.hid hD3
 refine wpG_start (fun w' : World => w'.heap[w.heap.size]? = some (.cells (hc h (.slice (some ⟨gg, 0, none⟩) l.length cap)) 29 (0, 0)) ∧ w'.heap[w.heap.size + 1]? = some (.cells (dc ⟨3, (i : Int), b, c, n⟩) 40 (0, 0))) 17 (by kernel_rfl) ?_
 have hI0 : (fun w' : World => w'.heap[w.heap.size]? = some (.cells (hc h (.slice (some ⟨gg, 0, none⟩) l.length cap)) 29 (0, 0)) ∧ w'.heap[w.heap.size + 1]? = some (.cells (dc ⟨3, (i : Int), b, c, n⟩) 40 (0, 0))) w1.drew := ⟨hA1, hD1⟩
 refine wpG_put 117 (i := 0) (oi := _) (v := (.pointer (some ⟨w.heap.size, 40, none⟩))) [0] rfl rfl (by kernel_rfl) (by kernel_rfl) (by kernel_rfl) (by kernel_rfl) (fun _ _ _ h => h) hI0 ?hy0 ?rs0
 case hy0 => exact Or.inl ⟨by rfl, by intro w' hb; obtain ⟨c1, c2, c3, c4⟩ := hcI.out w' hb; go_simp; first | done | exact IntWalk.i64_in _ (by omega)⟩
 (try simp only [Act.put, List.setIfInBounds_toArray, List.set_cons_succ, List.set_cons_zero])
 refine wpG_put 118 (i := 1) (oi := _) (v := (.slice (some ⟨gg, 0, none⟩) l.length cap)) [1] rfl rfl (by kernel_rfl) (by kernel_rfl) (by kernel_rfl) (by kernel_rfl) (fun _ _ _ h => h) hI0 ?hy1 ?rs1
 case hy1 => exact Or.inl ⟨by rfl, by intro w' hb; obtain ⟨c1, c2, c3, c4⟩ := hcI.out w' hb; go_simp; first | done | exact IntWalk.i64_in _ (by omega)⟩
 (try simp only [Act.put, List.setIfInBounds_toArray, List.set_cons_succ, List.set_cons_zero])
 refine wpG_put 119 (i := 2) (oi := _) (v := (.pointer (some ⟨w.heap.size + 1, 1, none⟩))) [2] rfl rfl (by kernel_rfl) (by kernel_rfl) (by kernel_rfl) (by kernel_rfl) (fun _ _ _ h => h) hI0 ?hy2 ?rs2
 case hy2 => exact Or.inl ⟨by rfl, by intro w' hb; obtain ⟨c1, c2, c3, c4⟩ := hcI.out w' hb; go_simp; first | done | exact IntWalk.i64_in _ (by omega)⟩
 (try simp only [Act.put, List.setIfInBounds_toArray, List.set_cons_succ, List.set_cons_zero])
 refine wpG_put 120 (i := 3) (oi := _) (v := (.int .i64 (i : Int))) [3] rfl rfl (by kernel_rfl) (by kernel_rfl) (by kernel_rfl) (by kernel_rfl) (fun _ _ _ h => h) hI0 ?hy3 ?rs3
 case hy3 => exact Or.inl ⟨by rfl, by intro w' hb; obtain ⟨c1, c2, c3, c4⟩ := hcI.out w' hb; go_simp; first | done | exact IntWalk.i64_in _ (by omega)⟩
 (try simp only [Act.put, List.setIfInBounds_toArray, List.set_cons_succ, List.set_cons_zero])
 refine wpG_put 121 (i := 4) (oi := _) (v := (.pointer (some ⟨w.heap.size, 40, none⟩))) [4] rfl rfl (by kernel_rfl) (by kernel_rfl) (by kernel_rfl) (by kernel_rfl) (fun _ _ _ h => h) hI0 ?hy4 ?rs4
 case hy4 => exact Or.inl ⟨by rfl, by intro w' hb; obtain ⟨c1, c2, c3, c4⟩ := hcI.out w' hb; go_simp; first | done | exact IntWalk.i64_in _ (by omega)⟩
 (try simp only [Act.put, List.setIfInBounds_toArray, List.set_cons_succ, List.set_cons_zero])
 refine wpG_put 122 (i := 5) (oi := _) (v := (.slice (some ⟨gg, 0, none⟩) l.length cap)) [5] rfl rfl (by kernel_rfl) (by kernel_rfl) (by kernel_rfl) (by kernel_rfl) (fun _ _ _ h => h) hI0 ?hy5 ?rs5
 case hy5 => exact Or.inl ⟨by rfl, by intro w' hb; obtain ⟨c1, c2, c3, c4⟩ := hcI.out w' hb; go_simp; first | done | exact IntWalk.i64_in _ (by omega)⟩
 (try simp only [Act.put, List.setIfInBounds_toArray, List.set_cons_succ, List.set_cons_zero])
 refine wpG_put 123 (i := 6) (oi := _) (v := (.pointer (some ⟨w.heap.size + 1, 1, none⟩))) [6] rfl rfl (by kernel_rfl) (by kernel_rfl) (by kernel_rfl) (by kernel_rfl) (fun _ _ _ h => h) hI0 ?hy6 ?rs6
 case hy6 => exact Or.inl ⟨by rfl, by intro w' hb; obtain ⟨c1, c2, c3, c4⟩ := hcI.out w' hb; go_simp; first | done | exact IntWalk.i64_in _ (by omega)⟩
 (try simp only [Act.put, List.setIfInBounds_toArray, List.set_cons_succ, List.set_cons_zero])
 refine wpG_put 124 (i := 7) (oi := _) (v := (.int .i64 (i : Int))) [7] rfl rfl (by kernel_rfl) (by kernel_rfl) (by kernel_rfl) (by kernel_rfl) (fun _ _ _ h => h) hI0 ?hy7 ?rs7
 case hy7 => exact Or.inl ⟨by rfl, by intro w' hb; obtain ⟨c1, c2, c3, c4⟩ := hcI.out w' hb; go_simp; first | done | exact IntWalk.i64_in _ (by omega)⟩
 (try simp only [Act.put, List.setIfInBounds_toArray, List.set_cons_succ, List.set_cons_zero])
 refine wpG_put 125 (i := 8) (oi := _) (v := (.pointer (some ⟨w.heap.size + 1, 3, none⟩))) [8] rfl rfl (by kernel_rfl) (by kernel_rfl) (by kernel_rfl) (by kernel_rfl) (fun _ _ _ h => h) hI0 ?hy8 ?rs8
 case hy8 => exact Or.inl ⟨by rfl, by intro w' hb; obtain ⟨c1, c2, c3, c4⟩ := hcI.out w' hb; go_simp; first | done | exact IntWalk.i64_in _ (by omega)⟩
 (try simp only [Act.put, List.setIfInBounds_toArray, List.set_cons_succ, List.set_cons_zero])
 refine wpG_put 126 (i := 9) (oi := _) (v := (.int .i64 c)) [9] rfl rfl (by kernel_rfl) (by kernel_rfl) (by kernel_rfl) (by kernel_rfl) (fun _ _ _ h => h) hI0 ?hy9 ?rs9
 case hy9 => exact Or.inl ⟨by rfl, by intro w' hb; obtain ⟨c1, c2, c3, c4⟩ := hcI.out w' hb; go_simp; first | done | exact IntWalk.i64_in _ (by omega)⟩
 (try simp only [Act.put, List.setIfInBounds_toArray, List.set_cons_succ, List.set_cons_zero])
 refine wpG_put 127 (i := 10) (oi := _) (v := (.pointer (some ⟨w.heap.size, 41, none⟩))) [10] rfl rfl (by kernel_rfl) (by kernel_rfl) (by kernel_rfl) (by kernel_rfl) (fun _ _ _ h => h) hI0 ?hy10 ?rs10
 case hy10 => exact Or.inl ⟨by rfl, by intro w' hb; obtain ⟨c1, c2, c3, c4⟩ := hcI.out w' hb; go_simp; first | done | exact IntWalk.i64_in _ (by omega)⟩
 (try simp only [Act.put, List.setIfInBounds_toArray, List.set_cons_succ, List.set_cons_zero])
 refine wpG_put 128 (i := 11) (oi := _) (v := (.int .i64 h.next)) [11] rfl rfl (by kernel_rfl) (by kernel_rfl) (by kernel_rfl) (by kernel_rfl) (fun _ _ _ h => h) hI0 ?hy11 ?rs11
 case hy11 => exact Or.inl ⟨by rfl, by intro w' hb; obtain ⟨c1, c2, c3, c4⟩ := hcI.out w' hb; go_simp; first | done | exact IntWalk.i64_in _ (by omega)⟩
 (try simp only [Act.put, List.setIfInBounds_toArray, List.set_cons_succ, List.set_cons_zero])
 refine wpG_put 129 (i := 12) (oi := _) (v := (.pointer (some ⟨gg, i * 6, none⟩))) [12] rfl rfl (by kernel_rfl) (by kernel_rfl) (by kernel_rfl) (by kernel_rfl) (fun _ _ _ h => h) hI0 ?hy12 ?rs12
 case hy12 => exact Or.inl ⟨by rfl, by intro w' hb; obtain ⟨c1, c2, c3, c4⟩ := hcI.out w' hb; go_simp; first | done | exact IntWalk.i64_in _ (by omega)⟩
 (try simp only [Act.put, List.setIfInBounds_toArray, List.set_cons_succ, List.set_cons_zero])
 refine wpG_put 130 (i := 13) (oi := _) (v := (.pointer (some ⟨gg, i * 6 + 3, none⟩))) [13] rfl rfl (by kernel_rfl) (by kernel_rfl) (by kernel_rfl) (by kernel_rfl) (fun _ _ _ h => h) hI0 ?hy13 ?rs13
 case hy13 => exact Or.inl ⟨by rfl, by intro w' hb; obtain ⟨c1, c2, c3, c4⟩ := hcI.out w' hb; go_simp; first | done | exact IntWalk.i64_in _ (by omega)⟩
 (try simp only [Act.put, List.setIfInBounds_toArray, List.set_cons_succ, List.set_cons_zero])
 clear hI0
 refine wpG_one (i := 14) (by kernel_rfl) rfl ?_
 go_wp2_with fail
 refine ⟨⟨hA3.out, hD3.out⟩, ?_⟩
 (try simp only [Act.put, List.setIfInBounds_toArray, List.set_cons_succ, List.set_cons_zero])
 refine wpG_one (i := 15) (by kernel_rfl) rfl ?_
 go_wp2_with fail
 refine ⟨⟨hA3.out, hD3.out⟩, ?_⟩
 (try simp only [Act.put, List.setIfInBounds_toArray, List.set_cons_succ, List.set_cons_zero])
 refine wpG_one (i := 16) (by kernel_rfl) rfl ?_
 go_wp2_with fail
 refine ⟨⟨hA3.out, hD3.out⟩, ?_⟩
 (try simp only [Act.put, List.setIfInBounds_toArray, List.set_cons_succ, List.set_cons_zero])
 refine wpG_drop 17 rfl (by kernel_rfl) ?_
 simp only [List.drop_succ_cons, List.drop_zero]
 go_upto_region 27 with fail
 generalize hWs : World.drew _ = Wt
 have hA4 : Wt.heap[w.heap.size]? = some (.cells (hc h (.slice (some ⟨gg, 0, none⟩) l.length cap)) 29 (0, 0)) := by rw [← hWs]; exact hsetOther hA3.out (by omega) _
 have hH4 : Wt.heap[w.heap.size + 2]? = some (.cells (hc Hs.zero (.slice none 0 0)) 29 (0, 0)) := by rw [← hWs]; exact hsetOther (hsetOther hH1 (by omega) _) (by omega) _
 have hR4 : Wt.heap[w.heap.size + 3]? = some (.cells (rc 0 0 (.slice none 0 0)) 44 (0, 0)) := by rw [← hWs]; exact hsetOther (hsetOther hR1 (by omega) _) (by omega) _
 have hB4 : Only (fun b => (Value.slice (some (⟨gg, 0, none⟩ : Addr)) l.length cap).ownBlock = some b) w Wt := by rw [← hWs]; exact (((only_new hB1).step (only_set gg _ _ _) fun b e => .inl (by rw [e]; rfl)).step (only_set gg _ _ _) fun b e => .inl (by rw [e]; rfl)).drew
 have hG4 : Wt.heap[gg]? = some (.cells ((cur.setIfInBounds (i * 6 + 3) (.int .i64 c)).setIfInBounds (i * 6 + 5) (.int .i64 h.next)) 70 (0, 0)) := by rw [← hWs]; exact hs2.out
 clear hWs hs1 hs2 hA3 hD3 hA1 hD1 hH1 hR1 hB1 hG1 fG cG3 cG5 hcI
 have cA := cells_at hA4
 have fA := frozenAt hA4
 have hset := hsetSame (i := 41) hA4 (.int .i64 (h.next + 1))
 rw [hc_setNext] at hset
 replace hset := Lib.hid hset
 replace hG4 := Lib.hid hG4
 go_upto_region 60 with fail
 generalize hWs : World.setCell Wt _ _ = Ws
 have hA2 : Ws.heap[w.heap.size]? = some (.cells (hc (h.setNext (h.next + 1)) (.slice (some ⟨gg, 0, none⟩) l.length cap)) 29 (0, 0)) := by rw [← hWs]; exact hset.out
 have hH2 : Ws.heap[w.heap.size + 2]? = some (.cells (hc Hs.zero (.slice none 0 0)) 29 (0, 0)) := by rw [← hWs]; exact hsetOther hH4 (by omega) _
 have hR2 : Ws.heap[w.heap.size + 3]? = some (.cells (rc 0 0 (.slice none 0 0)) 44 (0, 0)) := by rw [← hWs]; exact hsetOther hR4 (by omega) _
 have hB2 : Only (fun b => (Value.slice (some (⟨gg, 0, none⟩ : Addr)) l.length cap).ownBlock = some b) w Ws := by rw [← hWs]; exact hB4.step (only_set w.heap.size _ _ _) fun b e => .inr (by omega)
 have hG2 : Ws.heap[gg]? = some (.cells ((cur.setIfInBounds (i * 6 + 3) (.int .i64 c)).setIfInBounds (i * 6 + 5) (.int .i64 h.next)) 70 (0, 0)) := by rw [← hWs]; exact hsetOther hG4.out (by omega) _
 have hp2 : PaysAt Ws (some ⟨gg, 0, none⟩) cap (l.set i ((payAt l i).last c h.next)) := PaysAt.of_row hG2 (by rw [List.length_set]; exact hlc) hcm (by rw [List.length_set]; omega) (last_row hcur.out hi0)
 clear hWs hset fA cA hA4 hH4 hR4 hB4 hG4 hG2
 go_wp2_with (first | go_skip | (refine ld_row 29 _ rfl rfl _ rfl _ _ _ _ hA2 Try.underlying29 rfl info30 ?_) | (refine st_row 29 _ _ rfl rfl _ rfl _ rfl _ _ hH2 info30 rfl (hc_one _ _ rfl) ?_; intro wa hra hgra hsza) | (refine st_row 44 _ _ rfl rfl _ rfl (rc 0 0 (.slice none 0 0)) rfl _ _ ((hgra.block _ (hlt hR2) (by simp)).trans hR2) infoRp rfl (rc_one _ _ _ rfl) ?_; intro wb hrb hgrb hszb))
 exact bodyPost_ret (results_hr rfl _ _ _ _ _ _ _ _ _ rfl rfl ((hgrb.block _ (hlt hra) (by simp)).trans hra) hrb) rfl (next_end (X := ⟨h.setNext (h.next + 1), l.set i ((payAt l i).last c h.next), 0, 0, []⟩) (by simp only [List.length_set]) hB2 (hlt hR2) hgra hgrb hp2 (fun hl b off s e => ⟨.inl (by cases e; rfl), by cases e; omega, by cases e; omega, by simp [Value.ownBlock]⟩) (OwnInts.nil _ _) (fun x hx => by simp [Value.ownBlock] at hx))
end Go.Proofs.Ytggfdkkhlokmlab


