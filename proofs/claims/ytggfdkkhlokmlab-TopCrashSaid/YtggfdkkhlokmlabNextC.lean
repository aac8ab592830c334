/- bank.next: credit and limit. -/
import Derived.Test.YtggfdkkhlokmlabNextA
set_option linter.unusedSimpArgs false
namespace Go.Proofs.Ytggfdkkhlokmlab
open Go.RowKit
attribute [local go_sem] hc_pays hc_next hc_size rc_0 rc_1 rc_2 rc_size dc_0 dc_1 dc_2 dc_3 dc_4 dc_size hc_cr hc_lim hc_has
theorem hc_setCr (h : Hs) (s : Value) (i v : Int) (h0 : 0 ≤ i) (h1 : i < 4) : (hc h s).setIfInBounds (i.toNat * 2 + 1) (.int .i64 v) = hc (h.setCr i v) s := by
 rcases four ⟨h0, h1⟩ with rfl | rfl | rfl | rfl <;> rfl
theorem pay_set {w : World} {a : Option Addr} {cap : Nat} {l : List Pay} (h : PaysAt w a cap l) (g i : Nat) (v : Value) (ha : 0 < l.length → ∀ b off s, a = some ⟨b, off, s⟩ → b ≠ g) : PaysAt (w.setCell ⟨g, i, none⟩ v) a cap l :=
 payN (g := g) h ⟨rfl, rfl, rfl, by simp [World.setCell], fun k _ hne => heap_setCell_other _ _ _ _ (by simpa using hne)⟩ ha
set_option maxRecDepth 100000 in
set_option maxHeartbeats 400000 in
theorem next_credit_no1 (h : Hs) (l : List Pay) (v0 : Value) (a b c n : Int) (w : World) (hown : OwnPays w 0 v0 l) (g : GoodP h l) (e1 : sm 0 a 3 = false) :
  Calls Try.prog 61 #[.agg (hc h v0), .agg (dc ⟨4, a, b, c, n⟩)] w (NextPost v0 (.err h l 3) w) := by
 replace e1 := Lib.hid e1
 obtain ⟨a0, cap0, rfl, hp, hpb⟩ := hown.at_
 have hpl : 0 < l.length → ∀ b off s, a0 = some ⟨b, off, s⟩ → b < w.heap.size := fun hl b off s e => by
  obtain ⟨b', off', e', hbl, _⟩ := hp.row hl
  rw [e] at e'; cases e'; exact hbl
 have hlen := g.len
 have hroom := g.room
 replace hp := Lib.hid hp
 replace hpb := Lib.hid hpb
 replace hpl := Lib.hid hpl
 replace hown := Lib.hid hown
 go_enter Try.func61, Try.ntmps61
 go_upto_region 1 with fail
 generalize hW : World.alloc (World.alloc (World.alloc (World.alloc w _) _) _) _ = W0
 obtain ⟨hA, hD, hH, hR, hB⟩ : W0.heap[w.heap.size]? = some (.cells (hc h (.slice a0 l.length cap0)) 29 (0, 0)) ∧ W0.heap[w.heap.size + 1]? = some (.cells (dc ⟨4, a, b, c, n⟩) 40 (0, 0)) ∧ W0.heap[w.heap.size + 2]? = some (.cells (hc Hs.zero (.slice none 0 0)) 29 (0, 0)) ∧ W0.heap[w.heap.size + 3]? = some (.cells (rc 0 0 (.slice none 0 0)) 44 (0, 0)) ∧ Below w.heap.size w W0 := by rw [← hW]; exact four4 w _ _ _ _
 have hp0 := hp.out.below hB
 have cA := cells_at hA
 have cD := cells_at hD
 clear hW
 go_wp2_with (first | go_skip | (go_at_call 54; refine (in_any _ _ _ _).mono ?_; rintro e w' ⟨rfl, rfl⟩; first | rw [e1.out]) | (go_at_call 78; refine (nextNo_any h _ rfl 3 w.heap.size _ hA).mono ?_; rintro e wn ⟨rfl, hbn⟩) | (refine st_row 29 _ _ rfl rfl _ rfl _ rfl _ _ (hkeep hbn hH) info30 rfl (hc_one _ _ rfl) ?_; intro wa hra hgra hsza) | (refine st_row 44 _ _ rfl rfl _ rfl (rc 3 0 (.slice none 0 0)) rfl _ _ ((hgra.block _ (hlt (hkeep hbn hR)) (by simp)).trans (hkeep hbn hR)) infoRp rfl (rc_one _ _ _ rfl) ?_; intro wb hrb hgrb hszb))
 have hBn := bstep hB hB.size hbn
 have hzn := Nat.le_trans (hlt hR) hbn.size
 exact bodyPost_ret (results_hr rfl _ _ _ _ _ _ _ _ _ rfl rfl ((hgrb.block _ (hlt hra) (by simp)).trans hra) hrb) rfl (next_end (X := .err h l 3) rfl (only_new hBn) hzn hgra hgrb ((hp0).below hbn) (fun hl b off s e => ⟨.inl (by rw [e]; rfl), by have := hpl.out hl b off s e; omega, by have := hpl.out hl b off s e; omega, by simp [Value.ownBlock]⟩) (OwnInts.nil _ _) (fun x hx => by simp [Value.ownBlock] at hx))
set_option maxRecDepth 100000 in
set_option maxHeartbeats 400000 in
theorem next_credit_no2 (h : Hs) (l : List Pay) (v0 : Value) (a b c n : Int) (w : World) (hown : OwnPays w 0 v0 l) (g : GoodP h l) (e1 : sm 0 a 3 = true) (e2 : sm 0 n 1000000 = false) :
  Calls Try.prog 61 #[.agg (hc h v0), .agg (dc ⟨4, a, b, c, n⟩)] w (NextPost v0 (.err h l 3) w) := by
 replace e1 := Lib.hid e1
 replace e2 := Lib.hid e2
 obtain ⟨a0, cap0, rfl, hp, hpb⟩ := hown.at_
 have hpl : 0 < l.length → ∀ b off s, a0 = some ⟨b, off, s⟩ → b < w.heap.size := fun hl b off s e => by
  obtain ⟨b', off', e', hbl, _⟩ := hp.row hl
  rw [e] at e'; cases e'; exact hbl
 have hlen := g.len
 have hroom := g.room
 replace hp := Lib.hid hp
 replace hpb := Lib.hid hpb
 replace hpl := Lib.hid hpl
 replace hown := Lib.hid hown
 go_enter Try.func61, Try.ntmps61
 go_upto_region 1 with fail
 generalize hW : World.alloc (World.alloc (World.alloc (World.alloc w _) _) _) _ = W0
 obtain ⟨hA, hD, hH, hR, hB⟩ : W0.heap[w.heap.size]? = some (.cells (hc h (.slice a0 l.length cap0)) 29 (0, 0)) ∧ W0.heap[w.heap.size + 1]? = some (.cells (dc ⟨4, a, b, c, n⟩) 40 (0, 0)) ∧ W0.heap[w.heap.size + 2]? = some (.cells (hc Hs.zero (.slice none 0 0)) 29 (0, 0)) ∧ W0.heap[w.heap.size + 3]? = some (.cells (rc 0 0 (.slice none 0 0)) 44 (0, 0)) ∧ Below w.heap.size w W0 := by rw [← hW]; exact four4 w _ _ _ _
 have hp0 := hp.out.below hB
 have cA := cells_at hA
 have cD := cells_at hD
 clear hW
 go_wp2_with (first | go_skip | (go_at_call 54; refine (in_any _ _ _ _).mono ?_; rintro e w' ⟨rfl, rfl⟩; first | rw [e1.out] | rw [e2.out]) | (go_at_call 78; refine (nextNo_any h _ rfl 3 w.heap.size _ hA).mono ?_; rintro e wn ⟨rfl, hbn⟩) | (refine st_row 29 _ _ rfl rfl _ rfl _ rfl _ _ (hkeep hbn hH) info30 rfl (hc_one _ _ rfl) ?_; intro wa hra hgra hsza) | (refine st_row 44 _ _ rfl rfl _ rfl (rc 3 0 (.slice none 0 0)) rfl _ _ ((hgra.block _ (hlt (hkeep hbn hR)) (by simp)).trans (hkeep hbn hR)) infoRp rfl (rc_one _ _ _ rfl) ?_; intro wb hrb hgrb hszb))
 have hBn := bstep hB hB.size hbn
 have hzn := Nat.le_trans (hlt hR) hbn.size
 exact bodyPost_ret (results_hr rfl _ _ _ _ _ _ _ _ _ rfl rfl ((hgrb.block _ (hlt hra) (by simp)).trans hra) hrb) rfl (next_end (X := .err h l 3) rfl (only_new hBn) hzn hgra hgrb ((hp0).below hbn) (fun hl b off s e => ⟨.inl (by rw [e]; rfl), by have := hpl.out hl b off s e; omega, by have := hpl.out hl b off s e; omega, by simp [Value.ownBlock]⟩) (OwnInts.nil _ _) (fun x hx => by simp [Value.ownBlock] at hx))
set_option maxRecDepth 100000 in
set_option maxHeartbeats 400000 in
theorem next_credit_yes (h : Hs) (l : List Pay) (v0 : Value) (a b c n : Int) (w : World) (hown : OwnPays w 0 v0 l) (g : GoodP h l) (e1 : sm 0 a 3 = true) (e2 : sm 0 n 1000000 = true) :
  Calls Try.prog 61 #[.agg (hc h v0), .agg (dc ⟨4, a, b, c, n⟩)] w (NextPost v0 (⟨h.setCr a n, l, 0, 0, []⟩) w) := by
 obtain ⟨q0, q1⟩ := sm_true e1
 have q2 : a < 4 := by omega
 replace e1 := Lib.hid e1
 replace e2 := Lib.hid e2
 obtain ⟨a0, cap0, rfl, hp, hpb⟩ := hown.at_
 have hpl : 0 < l.length → ∀ b off s, a0 = some ⟨b, off, s⟩ → b < w.heap.size := fun hl b off s e => by
  obtain ⟨b', off', e', hbl, _⟩ := hp.row hl
  rw [e] at e'; cases e'; exact hbl
 have hlen := g.len
 have hroom := g.room
 replace hp := Lib.hid hp
 replace hpb := Lib.hid hpb
 replace hpl := Lib.hid hpl
 replace hown := Lib.hid hown
 go_enter Try.func61, Try.ntmps61
 go_upto_region 1 with fail
 generalize hW : World.alloc (World.alloc (World.alloc (World.alloc w _) _) _) _ = W0
 obtain ⟨hA, hD, hH, hR, hB⟩ : W0.heap[w.heap.size]? = some (.cells (hc h (.slice a0 l.length cap0)) 29 (0, 0)) ∧ W0.heap[w.heap.size + 1]? = some (.cells (dc ⟨4, a, b, c, n⟩) 40 (0, 0)) ∧ W0.heap[w.heap.size + 2]? = some (.cells (hc Hs.zero (.slice none 0 0)) 29 (0, 0)) ∧ W0.heap[w.heap.size + 3]? = some (.cells (rc 0 0 (.slice none 0 0)) 44 (0, 0)) ∧ Below w.heap.size w W0 := by rw [← hW]; exact four4 w _ _ _ _
 have hp0 := hp.out.below hB
 have cA := cells_at hA
 have cD := cells_at hD
 clear hW
 have fA := frozenAt hA
 have hset := hsetSame (i := a.toNat * 2 + 1) hA (.int .i64 n)
 rw [hc_setCr _ _ _ _ q0 q2] at hset
 replace hset := Lib.hid hset
 go_upto_region 60 with (first | go_skip | (go_at_call 54; refine (in_any _ _ _ _).mono ?_; rintro e w' ⟨rfl, rfl⟩; first | rw [e1.out] | rw [e2.out]))
 generalize hWs : World.setCell W0 _ _ = Ws
 have hA2 : Ws.heap[w.heap.size]? = some (.cells (hc (h.setCr a n) (.slice a0 l.length cap0)) 29 (0, 0)) := by rw [← hWs]; exact hset.out
 have hH2 : Ws.heap[w.heap.size + 2]? = some (.cells (hc Hs.zero (.slice none 0 0)) 29 (0, 0)) := by rw [← hWs]; exact hsetOther hH (by omega) _
 have hR2 : Ws.heap[w.heap.size + 3]? = some (.cells (rc 0 0 (.slice none 0 0)) 44 (0, 0)) := by rw [← hWs]; exact hsetOther hR (by omega) _
 have hB2 : Below w.heap.size w Ws := by rw [← hWs]; exact hB.setCell (by show w.heap.size ≤ w.heap.size; exact Nat.le_refl _) _
 have hp2 : PaysAt Ws a0 cap0 l := by rw [← hWs]; exact pay_set hp0 _ _ _ (fun hl b off s e => by have := hpl.out hl b off s e; omega)
 clear hWs hset fA cA cD hA hD hH hR hB hp0
 go_wp2_with (first | go_skip | (refine ld_row 29 _ rfl rfl _ rfl _ _ _ _ hA2 Try.underlying29 rfl info30 ?_) | (refine st_row 29 _ _ rfl rfl _ rfl _ rfl _ _ hH2 info30 rfl (hc_one _ _ rfl) ?_; intro wa hra hgra hsza) | (refine st_row 44 _ _ rfl rfl _ rfl (rc 0 0 (.slice none 0 0)) rfl _ _ ((hgra.block _ (hlt hR2) (by simp)).trans hR2) infoRp rfl (rc_one _ _ _ rfl) ?_; intro wb hrb hgrb hszb))
 exact bodyPost_ret (results_hr rfl _ _ _ _ _ _ _ _ _ rfl rfl ((hgrb.block _ (hlt hra) (by simp)).trans hra) hrb) rfl (next_end (X := ⟨h.setCr a n, l, 0, 0, []⟩) rfl (only_new hB2) (hlt hR2) hgra hgrb hp2 (fun hl b off s e => ⟨.inl (by rw [e]; rfl), by have := hpl.out hl b off s e; omega, by have := hpl.out hl b off s e; omega, by simp [Value.ownBlock]⟩) (OwnInts.nil _ _) (fun x hx => by simp [Value.ownBlock] at hx))
set_option maxRecDepth 100000 in
set_option maxHeartbeats 400000 in
theorem next_limit_no1 (h : Hs) (l : List Pay) (v0 : Value) (a b c n : Int) (w : World) (hown : OwnPays w 0 v0 l) (g : GoodP h l) (e1 : sm 0 a 3 = false) :
  Calls Try.prog 61 #[.agg (hc h v0), .agg (dc ⟨5, a, b, c, n⟩)] w (NextPost v0 (.err h l 3) w) := by
 replace e1 := Lib.hid e1
 obtain ⟨a0, cap0, rfl, hp, hpb⟩ := hown.at_
 have hpl : 0 < l.length → ∀ b off s, a0 = some ⟨b, off, s⟩ → b < w.heap.size := fun hl b off s e => by
  obtain ⟨b', off', e', hbl, _⟩ := hp.row hl
  rw [e] at e'; cases e'; exact hbl
 have hlen := g.len
 have hroom := g.room
 replace hp := Lib.hid hp
 replace hpb := Lib.hid hpb
 replace hpl := Lib.hid hpl
 replace hown := Lib.hid hown
 go_enter Try.func61, Try.ntmps61
 go_upto_region 1 with fail
 generalize hW : World.alloc (World.alloc (World.alloc (World.alloc w _) _) _) _ = W0
 obtain ⟨hA, hD, hH, hR, hB⟩ : W0.heap[w.heap.size]? = some (.cells (hc h (.slice a0 l.length cap0)) 29 (0, 0)) ∧ W0.heap[w.heap.size + 1]? = some (.cells (dc ⟨5, a, b, c, n⟩) 40 (0, 0)) ∧ W0.heap[w.heap.size + 2]? = some (.cells (hc Hs.zero (.slice none 0 0)) 29 (0, 0)) ∧ W0.heap[w.heap.size + 3]? = some (.cells (rc 0 0 (.slice none 0 0)) 44 (0, 0)) ∧ Below w.heap.size w W0 := by rw [← hW]; exact four4 w _ _ _ _
 have hp0 := hp.out.below hB
 have cA := cells_at hA
 have cD := cells_at hD
 clear hW
 go_wp2_with (first | go_skip | (go_at_call 54; refine (in_any _ _ _ _).mono ?_; rintro e w' ⟨rfl, rfl⟩; first | rw [e1.out]) | (go_at_call 78; refine (nextNo_any h _ rfl 3 w.heap.size _ hA).mono ?_; rintro e wn ⟨rfl, hbn⟩) | (refine st_row 29 _ _ rfl rfl _ rfl _ rfl _ _ (hkeep hbn hH) info30 rfl (hc_one _ _ rfl) ?_; intro wa hra hgra hsza) | (refine st_row 44 _ _ rfl rfl _ rfl (rc 3 0 (.slice none 0 0)) rfl _ _ ((hgra.block _ (hlt (hkeep hbn hR)) (by simp)).trans (hkeep hbn hR)) infoRp rfl (rc_one _ _ _ rfl) ?_; intro wb hrb hgrb hszb))
 have hBn := bstep hB hB.size hbn
 have hzn := Nat.le_trans (hlt hR) hbn.size
 exact bodyPost_ret (results_hr rfl _ _ _ _ _ _ _ _ _ rfl rfl ((hgrb.block _ (hlt hra) (by simp)).trans hra) hrb) rfl (next_end (X := .err h l 3) rfl (only_new hBn) hzn hgra hgrb ((hp0).below hbn) (fun hl b off s e => ⟨.inl (by rw [e]; rfl), by have := hpl.out hl b off s e; omega, by have := hpl.out hl b off s e; omega, by simp [Value.ownBlock]⟩) (OwnInts.nil _ _) (fun x hx => by simp [Value.ownBlock] at hx))
set_option maxRecDepth 100000 in
set_option maxHeartbeats 400000 in
theorem next_limit_no2 (h : Hs) (l : List Pay) (v0 : Value) (a b c n : Int) (w : World) (hown : OwnPays w 0 v0 l) (g : GoodP h l) (e1 : sm 0 a 3 = true) (e2 : sm 0 b 3 = false) :
  Calls Try.prog 61 #[.agg (hc h v0), .agg (dc ⟨5, a, b, c, n⟩)] w (NextPost v0 (.err h l 3) w) := by
 replace e1 := Lib.hid e1
 replace e2 := Lib.hid e2
 obtain ⟨a0, cap0, rfl, hp, hpb⟩ := hown.at_
 have hpl : 0 < l.length → ∀ b off s, a0 = some ⟨b, off, s⟩ → b < w.heap.size := fun hl b off s e => by
  obtain ⟨b', off', e', hbl, _⟩ := hp.row hl
  rw [e] at e'; cases e'; exact hbl
 have hlen := g.len
 have hroom := g.room
 replace hp := Lib.hid hp
 replace hpb := Lib.hid hpb
 replace hpl := Lib.hid hpl
 replace hown := Lib.hid hown
 go_enter Try.func61, Try.ntmps61
 go_upto_region 1 with fail
 generalize hW : World.alloc (World.alloc (World.alloc (World.alloc w _) _) _) _ = W0
 obtain ⟨hA, hD, hH, hR, hB⟩ : W0.heap[w.heap.size]? = some (.cells (hc h (.slice a0 l.length cap0)) 29 (0, 0)) ∧ W0.heap[w.heap.size + 1]? = some (.cells (dc ⟨5, a, b, c, n⟩) 40 (0, 0)) ∧ W0.heap[w.heap.size + 2]? = some (.cells (hc Hs.zero (.slice none 0 0)) 29 (0, 0)) ∧ W0.heap[w.heap.size + 3]? = some (.cells (rc 0 0 (.slice none 0 0)) 44 (0, 0)) ∧ Below w.heap.size w W0 := by rw [← hW]; exact four4 w _ _ _ _
 have hp0 := hp.out.below hB
 have cA := cells_at hA
 have cD := cells_at hD
 clear hW
 go_wp2_with (first | go_skip | (go_at_call 54; refine (in_any _ _ _ _).mono ?_; rintro e w' ⟨rfl, rfl⟩; first | rw [e1.out] | rw [e2.out]) | (go_at_call 78; refine (nextNo_any h _ rfl 3 w.heap.size _ hA).mono ?_; rintro e wn ⟨rfl, hbn⟩) | (refine st_row 29 _ _ rfl rfl _ rfl _ rfl _ _ (hkeep hbn hH) info30 rfl (hc_one _ _ rfl) ?_; intro wa hra hgra hsza) | (refine st_row 44 _ _ rfl rfl _ rfl (rc 3 0 (.slice none 0 0)) rfl _ _ ((hgra.block _ (hlt (hkeep hbn hR)) (by simp)).trans (hkeep hbn hR)) infoRp rfl (rc_one _ _ _ rfl) ?_; intro wb hrb hgrb hszb))
 have hBn := bstep hB hB.size hbn
 have hzn := Nat.le_trans (hlt hR) hbn.size
 exact bodyPost_ret (results_hr rfl _ _ _ _ _ _ _ _ _ rfl rfl ((hgrb.block _ (hlt hra) (by simp)).trans hra) hrb) rfl (next_end (X := .err h l 3) rfl (only_new hBn) hzn hgra hgrb ((hp0).below hbn) (fun hl b off s e => ⟨.inl (by rw [e]; rfl), by have := hpl.out hl b off s e; omega, by have := hpl.out hl b off s e; omega, by simp [Value.ownBlock]⟩) (OwnInts.nil _ _) (fun x hx => by simp [Value.ownBlock] at hx))
set_option maxRecDepth 100000 in
set_option maxHeartbeats 400000 in
theorem next_limit_no3 (h : Hs) (l : List Pay) (v0 : Value) (a b c n : Int) (w : World) (hown : OwnPays w 0 v0 l) (g : GoodP h l) (e1 : sm 0 a 3 = true) (e2 : sm 0 b 3 = true) (e3 : (a == b) = true) :
  Calls Try.prog 61 #[.agg (hc h v0), .agg (dc ⟨5, a, b, c, n⟩)] w (NextPost v0 (.err h l 3) w) := by
 replace e1 := Lib.hid e1
 replace e2 := Lib.hid e2
 obtain ⟨a0, cap0, rfl, hp, hpb⟩ := hown.at_
 have hpl : 0 < l.length → ∀ b off s, a0 = some ⟨b, off, s⟩ → b < w.heap.size := fun hl b off s e => by
  obtain ⟨b', off', e', hbl, _⟩ := hp.row hl
  rw [e] at e'; cases e'; exact hbl
 have hlen := g.len
 have hroom := g.room
 replace hp := Lib.hid hp
 replace hpb := Lib.hid hpb
 replace hpl := Lib.hid hpl
 replace hown := Lib.hid hown
 go_enter Try.func61, Try.ntmps61
 go_upto_region 1 with fail
 generalize hW : World.alloc (World.alloc (World.alloc (World.alloc w _) _) _) _ = W0
 obtain ⟨hA, hD, hH, hR, hB⟩ : W0.heap[w.heap.size]? = some (.cells (hc h (.slice a0 l.length cap0)) 29 (0, 0)) ∧ W0.heap[w.heap.size + 1]? = some (.cells (dc ⟨5, a, b, c, n⟩) 40 (0, 0)) ∧ W0.heap[w.heap.size + 2]? = some (.cells (hc Hs.zero (.slice none 0 0)) 29 (0, 0)) ∧ W0.heap[w.heap.size + 3]? = some (.cells (rc 0 0 (.slice none 0 0)) 44 (0, 0)) ∧ Below w.heap.size w W0 := by rw [← hW]; exact four4 w _ _ _ _
 have hp0 := hp.out.below hB
 have cA := cells_at hA
 have cD := cells_at hD
 clear hW
 go_wp2_with (first | go_skip | (go_at_call 54; refine (in_any _ _ _ _).mono ?_; rintro e w' ⟨rfl, rfl⟩; first | rw [e1.out] | rw [e2.out]) | (go_at_call 78; refine (nextNo_any h _ rfl 3 w.heap.size _ hA).mono ?_; rintro e wn ⟨rfl, hbn⟩) | (refine st_row 29 _ _ rfl rfl _ rfl _ rfl _ _ (hkeep hbn hH) info30 rfl (hc_one _ _ rfl) ?_; intro wa hra hgra hsza) | (refine st_row 44 _ _ rfl rfl _ rfl (rc 3 0 (.slice none 0 0)) rfl _ _ ((hgra.block _ (hlt (hkeep hbn hR)) (by simp)).trans (hkeep hbn hR)) infoRp rfl (rc_one _ _ _ rfl) ?_; intro wb hrb hgrb hszb))
 have hBn := bstep hB hB.size hbn
 have hzn := Nat.le_trans (hlt hR) hbn.size
 exact bodyPost_ret (results_hr rfl _ _ _ _ _ _ _ _ _ rfl rfl ((hgrb.block _ (hlt hra) (by simp)).trans hra) hrb) rfl (next_end (X := .err h l 3) rfl (only_new hBn) hzn hgra hgrb ((hp0).below hbn) (fun hl b off s e => ⟨.inl (by rw [e]; rfl), by have := hpl.out hl b off s e; omega, by have := hpl.out hl b off s e; omega, by simp [Value.ownBlock]⟩) (OwnInts.nil _ _) (fun x hx => by simp [Value.ownBlock] at hx))
set_option maxRecDepth 100000 in
set_option maxHeartbeats 400000 in
theorem next_limit_no4 (h : Hs) (l : List Pay) (v0 : Value) (a b c n : Int) (w : World) (hown : OwnPays w 0 v0 l) (g : GoodP h l) (e1 : sm 0 a 3 = true) (e2 : sm 0 b 3 = true) (e3 : (a == b) = false) (e4 : sm (-1) n 1000000 = false) :
  Calls Try.prog 61 #[.agg (hc h v0), .agg (dc ⟨5, a, b, c, n⟩)] w (NextPost v0 (.err h l 3) w) := by
 replace e1 := Lib.hid e1
 replace e2 := Lib.hid e2
 replace e4 := Lib.hid e4
 obtain ⟨a0, cap0, rfl, hp, hpb⟩ := hown.at_
 have hpl : 0 < l.length → ∀ b off s, a0 = some ⟨b, off, s⟩ → b < w.heap.size := fun hl b off s e => by
  obtain ⟨b', off', e', hbl, _⟩ := hp.row hl
  rw [e] at e'; cases e'; exact hbl
 have hlen := g.len
 have hroom := g.room
 replace hp := Lib.hid hp
 replace hpb := Lib.hid hpb
 replace hpl := Lib.hid hpl
 replace hown := Lib.hid hown
 go_enter Try.func61, Try.ntmps61
 go_upto_region 1 with fail
 generalize hW : World.alloc (World.alloc (World.alloc (World.alloc w _) _) _) _ = W0
 obtain ⟨hA, hD, hH, hR, hB⟩ : W0.heap[w.heap.size]? = some (.cells (hc h (.slice a0 l.length cap0)) 29 (0, 0)) ∧ W0.heap[w.heap.size + 1]? = some (.cells (dc ⟨5, a, b, c, n⟩) 40 (0, 0)) ∧ W0.heap[w.heap.size + 2]? = some (.cells (hc Hs.zero (.slice none 0 0)) 29 (0, 0)) ∧ W0.heap[w.heap.size + 3]? = some (.cells (rc 0 0 (.slice none 0 0)) 44 (0, 0)) ∧ Below w.heap.size w W0 := by rw [← hW]; exact four4 w _ _ _ _
 have hp0 := hp.out.below hB
 have cA := cells_at hA
 have cD := cells_at hD
 clear hW
 go_wp2_with (first | go_skip | (go_at_call 54; refine (in_any _ _ _ _).mono ?_; rintro e w' ⟨rfl, rfl⟩; first | rw [e1.out] | rw [e2.out] | rw [e4.out]) | (go_at_call 78; refine (nextNo_any h _ rfl 3 w.heap.size _ hA).mono ?_; rintro e wn ⟨rfl, hbn⟩) | (refine st_row 29 _ _ rfl rfl _ rfl _ rfl _ _ (hkeep hbn hH) info30 rfl (hc_one _ _ rfl) ?_; intro wa hra hgra hsza) | (refine st_row 44 _ _ rfl rfl _ rfl (rc 3 0 (.slice none 0 0)) rfl _ _ ((hgra.block _ (hlt (hkeep hbn hR)) (by simp)).trans (hkeep hbn hR)) infoRp rfl (rc_one _ _ _ rfl) ?_; intro wb hrb hgrb hszb))
 have hBn := bstep hB hB.size hbn
 have hzn := Nat.le_trans (hlt hR) hbn.size
 exact bodyPost_ret (results_hr rfl _ _ _ _ _ _ _ _ _ rfl rfl ((hgrb.block _ (hlt hra) (by simp)).trans hra) hrb) rfl (next_end (X := .err h l 3) rfl (only_new hBn) hzn hgra hgrb ((hp0).below hbn) (fun hl b off s e => ⟨.inl (by rw [e]; rfl), by have := hpl.out hl b off s e; omega, by have := hpl.out hl b off s e; omega, by simp [Value.ownBlock]⟩) (OwnInts.nil _ _) (fun x hx => by simp [Value.ownBlock] at hx))
set_option maxRecDepth 100000 in
set_option maxHeartbeats 400000 in
theorem next_limit_yes (h : Hs) (l : List Pay) (v0 : Value) (a b c n : Int) (w : World) (hown : OwnPays w 0 v0 l) (g : GoodP h l) (e1 : sm 0 a 3 = true) (e2 : sm 0 b 3 = true) (e3 : (a == b) = false) (e4 : sm (-1) n 1000000 = true) :
  Calls Try.prog 61 #[.agg (hc h v0), .agg (dc ⟨5, a, b, c, n⟩)] w (NextPost v0 (⟨h.setLim a b n, l, 0, 0, []⟩) w) := by
 obtain ⟨q0, q1⟩ := sm_true e1
 have q2 : a < 4 := by omega
 obtain ⟨p0, p1⟩ := sm_true e2
 have p2 : b < 4 := by omega
 replace e1 := Lib.hid e1
 replace e2 := Lib.hid e2
 replace e4 := Lib.hid e4
 obtain ⟨a0, cap0, rfl, hp, hpb⟩ := hown.at_
 have hpl : 0 < l.length → ∀ b off s, a0 = some ⟨b, off, s⟩ → b < w.heap.size := fun hl b off s e => by
  obtain ⟨b', off', e', hbl, _⟩ := hp.row hl
  rw [e] at e'; cases e'; exact hbl
 have hlen := g.len
 have hroom := g.room
 replace hp := Lib.hid hp
 replace hpb := Lib.hid hpb
 replace hpl := Lib.hid hpl
 replace hown := Lib.hid hown
 go_enter Try.func61, Try.ntmps61
 go_upto_region 1 with fail
 generalize hW : World.alloc (World.alloc (World.alloc (World.alloc w _) _) _) _ = W0
 obtain ⟨hA, hD, hH, hR, hB⟩ : W0.heap[w.heap.size]? = some (.cells (hc h (.slice a0 l.length cap0)) 29 (0, 0)) ∧ W0.heap[w.heap.size + 1]? = some (.cells (dc ⟨5, a, b, c, n⟩) 40 (0, 0)) ∧ W0.heap[w.heap.size + 2]? = some (.cells (hc Hs.zero (.slice none 0 0)) 29 (0, 0)) ∧ W0.heap[w.heap.size + 3]? = some (.cells (rc 0 0 (.slice none 0 0)) 44 (0, 0)) ∧ Below w.heap.size w W0 := by rw [← hW]; exact four4 w _ _ _ _
 have hp0 := hp.out.below hB
 have cA := cells_at hA
 have cD := cells_at hD
 clear hW
 go_upto_region 35 with (first | go_skip | (go_at_call 54; refine (in_any _ _ _ _).mono ?_; rintro e w' ⟨rfl, rfl⟩; first | rw [e1.out] | rw [e2.out] | rw [e4.out]))
 have hcI : ∀ w', Below W0.heap.size W0 w' → w'.cell? ⟨w.heap.size + 1, 1, none⟩ = some (.int .i64 a) ∧ w'.cell? ⟨w.heap.size + 1, 2, none⟩ = some (.int .i64 b) ∧ w'.cell? ⟨w.heap.size + 1, 4, none⟩ = some (.int .i64 n) := fun w' hb =>
  have h1 := cells_at (hkeep hb hD)
  ⟨h1 1, h1 2, h1 4⟩
 replace hcI := Lib.hid hcI
 clear cA cD
 refine wpG_start (Below W0.heap.size W0) 9 (by kernel_rfl) ?_
 have hI0 : Below W0.heap.size W0 W0.drew := (Below.refl _ _).drew
 refine wpG_put 189 (i := 0) (oi := _) (v := (.pointer (some ⟨w.heap.size + 1, 1, none⟩))) [0] rfl rfl (by kernel_rfl) (by kernel_rfl) (by kernel_rfl) (by kernel_rfl) (fun _ _ _ h => h) hI0 ?hy0 ?rs0
 case hy0 => exact Or.inl ⟨by rfl, by intro w' hb; obtain ⟨c1, c2, c3⟩ := hcI.out w' hb; go_simp⟩
 (try simp only [Act.put, List.setIfInBounds_toArray, List.set_cons_succ, List.set_cons_zero])
 refine wpG_put 190 (i := 1) (oi := _) (v := (.int .i64 a)) [1] rfl rfl (by kernel_rfl) (by kernel_rfl) (by kernel_rfl) (by kernel_rfl) (fun _ _ _ h => h) hI0 ?hy1 ?rs1
 case hy1 => exact Or.inl ⟨by rfl, by intro w' hb; obtain ⟨c1, c2, c3⟩ := hcI.out w' hb; go_simp⟩
 (try simp only [Act.put, List.setIfInBounds_toArray, List.set_cons_succ, List.set_cons_zero])
 refine wpG_put 191 (i := 2) (oi := _) (v := (.pointer (some ⟨w.heap.size + 1, 2, none⟩))) [2] rfl rfl (by kernel_rfl) (by kernel_rfl) (by kernel_rfl) (by kernel_rfl) (fun _ _ _ h => h) hI0 ?hy2 ?rs2
 case hy2 => exact Or.inl ⟨by rfl, by intro w' hb; obtain ⟨c1, c2, c3⟩ := hcI.out w' hb; go_simp⟩
 (try simp only [Act.put, List.setIfInBounds_toArray, List.set_cons_succ, List.set_cons_zero])
 refine wpG_put 192 (i := 3) (oi := _) (v := (.int .i64 b)) [3] rfl rfl (by kernel_rfl) (by kernel_rfl) (by kernel_rfl) (by kernel_rfl) (fun _ _ _ h => h) hI0 ?hy3 ?rs3
 case hy3 => exact Or.inl ⟨by rfl, by intro w' hb; obtain ⟨c1, c2, c3⟩ := hcI.out w' hb; go_simp⟩
 (try simp only [Act.put, List.setIfInBounds_toArray, List.set_cons_succ, List.set_cons_zero])
 refine wpG_put 193 (i := 4) (oi := _) (v := (.pointer (some ⟨w.heap.size + 1, 4, none⟩))) [4] rfl rfl (by kernel_rfl) (by kernel_rfl) (by kernel_rfl) (by kernel_rfl) (fun _ _ _ h => h) hI0 ?hy4 ?rs4
 case hy4 => exact Or.inl ⟨by rfl, by intro w' hb; obtain ⟨c1, c2, c3⟩ := hcI.out w' hb; go_simp⟩
 (try simp only [Act.put, List.setIfInBounds_toArray, List.set_cons_succ, List.set_cons_zero])
 refine wpG_put 194 (i := 5) (oi := _) (v := (.int .i64 n)) [5] rfl rfl (by kernel_rfl) (by kernel_rfl) (by kernel_rfl) (by kernel_rfl) (fun _ _ _ h => h) hI0 ?hy5 ?rs5
 case hy5 => exact Or.inl ⟨by rfl, by intro w' hb; obtain ⟨c1, c2, c3⟩ := hcI.out w' hb; go_simp⟩
 (try simp only [Act.put, List.setIfInBounds_toArray, List.set_cons_succ, List.set_cons_zero])
 refine wpG_put 195 (i := 6) (oi := _) (v := (.pointer (some ⟨w.heap.size, 24, none⟩))) [8, 7, 6] rfl rfl (by kernel_rfl) (by kernel_rfl) (by kernel_rfl) (by kernel_rfl) (fun _ _ _ h => h) hI0 ?hy6 ?rs6
 case hy6 => exact Or.inl ⟨by rfl, by intro w' hb; obtain ⟨c1, c2, c3⟩ := hcI.out w' hb; go_simp⟩
 (try simp only [Act.put, List.setIfInBounds_toArray, List.set_cons_succ, List.set_cons_zero])
 refine wpG_put 196 (i := 7) (oi := _) (v := (.pointer (some ⟨w.heap.size, 24 + a.toNat * 4, none⟩))) [8, 7] rfl rfl (by kernel_rfl) (by kernel_rfl) (by kernel_rfl) (by kernel_rfl) (fun _ _ _ h => h) hI0 ?hy7 ?rs7
 case hy7 => exact Or.inl ⟨by rfl, by intro w' hb; obtain ⟨c1, c2, c3⟩ := hcI.out w' hb; go_simp⟩
 (try simp only [Act.put, List.setIfInBounds_toArray, List.set_cons_succ, List.set_cons_zero])
 refine wpG_put 197 (i := 8) (oi := _) (v := (.pointer (some ⟨w.heap.size, 24 + a.toNat * 4 + b.toNat, none⟩))) [8] rfl rfl (by kernel_rfl) (by kernel_rfl) (by kernel_rfl) (by kernel_rfl) (fun _ _ _ h => h) hI0 ?hy8 ?rs8
 case hy8 => exact Or.inl ⟨by rfl, by intro w' hb; obtain ⟨c1, c2, c3⟩ := hcI.out w' hb; go_simp⟩
 (try simp only [Act.put, List.setIfInBounds_toArray, List.set_cons_succ, List.set_cons_zero])
 refine wpG_drop 9 rfl (by kernel_rfl) ?_
 simp only [List.drop_succ_cons, List.drop_zero]
 have hA9 := hkeep hI0 hA
 have fA := frozenAt hA9
 have cA := cells_at hA9
 have hset := hsetSame (i := 24 + a.toNat * 4 + b.toNat) hA (.int .i64 n)
 rw [hc_setLim _ _ _ _ _ q0 q2 p0 p2] at hset
 replace hset := Lib.hid hset
 go_upto_region 60 with fail
 generalize hWs : World.drew (World.setCell W0 _ _) = Ws
 have hA2 : Ws.heap[w.heap.size]? = some (.cells (hc (h.setLim a b n) (.slice a0 l.length cap0)) 29 (0, 0)) := by rw [← hWs]; exact hset.out
 have hH2 : Ws.heap[w.heap.size + 2]? = some (.cells (hc Hs.zero (.slice none 0 0)) 29 (0, 0)) := by rw [← hWs]; exact hsetOther hH (by omega) _
 have hR2 : Ws.heap[w.heap.size + 3]? = some (.cells (rc 0 0 (.slice none 0 0)) 44 (0, 0)) := by rw [← hWs]; exact hsetOther hR (by omega) _
 have hB2 : Below w.heap.size w Ws := by rw [← hWs]; exact (hB.setCell (by show w.heap.size ≤ w.heap.size; exact Nat.le_refl _) _).drew
 have hp2 : PaysAt Ws a0 cap0 l := by rw [← hWs]; exact (pay_set hp0 _ _ _ (fun hl b off s e => by have := hpl.out hl b off s e; omega)).below (Below.refl _ _).drew
 clear hWs hset fA cA hA hD hH hR hB hp0 hA9
 go_wp2_with (first | go_skip | (refine ld_row 29 _ rfl rfl _ rfl _ _ _ _ hA2 Try.underlying29 rfl info30 ?_) | (refine st_row 29 _ _ rfl rfl _ rfl _ rfl _ _ hH2 info30 rfl (hc_one _ _ rfl) ?_; intro wa hra hgra hsza) | (refine st_row 44 _ _ rfl rfl _ rfl (rc 0 0 (.slice none 0 0)) rfl _ _ ((hgra.block _ (hlt hR2) (by simp)).trans hR2) infoRp rfl (rc_one _ _ _ rfl) ?_; intro wb hrb hgrb hszb))
 exact bodyPost_ret (results_hr rfl _ _ _ _ _ _ _ _ _ rfl rfl ((hgrb.block _ (hlt hra) (by simp)).trans hra) hrb) rfl (next_end (X := ⟨h.setLim a b n, l, 0, 0, []⟩) rfl (only_new hB2) (hlt hR2) hgra hgrb hp2 (fun hl b off s e => ⟨.inl (by rw [e]; rfl), by have := hpl.out hl b off s e; omega, by have := hpl.out hl b off s e; omega, by simp [Value.ownBlock]⟩) (OwnInts.nil _ _) (fun x hx => by simp [Value.ownBlock] at hx))
end Go.Proofs.Ytggfdkkhlokmlab


