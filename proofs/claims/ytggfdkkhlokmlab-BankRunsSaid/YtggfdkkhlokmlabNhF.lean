/- The reference's NextHouse: whatever the house and the act. -/
import Derived.Test.YtggfdkkhlokmlabNhA
import Derived.Test.YtggfdkkhlokmlabNhB
namespace Go.Proofs.Ytggfdkkhlokmlab
open Go.RowKit
attribute [local go_sem] hc_pays hc_next hc_size rc_0 rc_1 rc_2 rc_size dc_0 dc_1 dc_2 dc_3 dc_4 dc_size
set_option maxRecDepth 100000 in
set_option maxHeartbeats 8000000 in
theorem nh_bad (h : Hs) (l : List Pay) (a0 : Option Addr) (cap0 : Nat) (d : Deed) (w : World) (hp : PaysAt w a0 cap0 l) (hgb : goodB h l = false) :
  Calls Try.prog 35 #[.agg (hc h (.slice a0 l.length cap0)), .agg (dc d)] w (NextsPost a0 (.err h l 1) w) := by
 have hpl : 0 < l.length → ∀ b off s, a0 = some ⟨b, off, s⟩ → b < w.heap.size := fun hl b off s e => by
  obtain ⟨b', off', e', hbl, _⟩ := hp.row hl
  rw [e] at e'; cases e'; exact hbl
 replace hp := Lib.hid hp
 replace hpl := Lib.hid hpl
 replace hgb := Lib.hid hgb
 go_enter Try.func35, Try.ntmps35
 go_upto_region 1 with fail
 generalize hW : World.alloc (World.alloc (World.alloc (World.alloc w _) _) _) _ = W0
 obtain ⟨hA, hD, hH, hR, hB⟩ : W0.heap[w.heap.size]? = some (.cells (hc h (.slice a0 l.length cap0)) 29 (0, 0)) ∧ W0.heap[w.heap.size + 1]? = some (.cells (dc d) 40 (0, 0)) ∧ W0.heap[w.heap.size + 2]? = some (.cells (hc Hs.zero (.slice none 0 0)) 29 (0, 0)) ∧ W0.heap[w.heap.size + 3]? = some (.cells (rc 0 0 (.slice none 0 0)) 44 (0, 0)) ∧ Below w.heap.size w W0 := by rw [← hW]; exact four4 w _ _ _ _
 have hp0 := hp.out.below hB
 have hsz : w.heap.size + 4 = W0.heap.size := by rw [← hW]; simp
 clear hW
 go_upto_region 3 with (first | go_skip | (refine ld_row 29 _ rfl rfl _ rfl _ _ _ _ hA Try.underlying29 rfl info30 ?_) | (go_at_call 64; refine (isHouse_any h l _ cap0 _ hp0).mono ?_; rintro e w1 ⟨rfl, hb1⟩; rw [hgb.out]))
 replace hA := hkeep hb1 hA
 replace hH := hkeep hb1 hH
 replace hR := hkeep hb1 hR
 replace hp0 := hp0.below hb1
 replace hB := bstep hB hB.size hb1
 clear hb1 hsz
 go_wp2_with (first | go_skip | (go_at_call 63; refine (refNo_any h _ rfl 1 w.heap.size _ hA).mono ?_; rintro e wn ⟨rfl, hbn⟩) | (refine st_row 29 _ _ rfl rfl _ rfl _ rfl _ _ (hkeep hbn hH) info30 rfl (hc_one _ _ rfl) ?_; intro wa hra hgra hsza) | (refine st_row 44 _ _ rfl rfl _ rfl (rc 1 0 (.slice none 0 0)) rfl _ _ ((hgra.block _ (hlt (hkeep hbn hR)) (by simp)).trans (hkeep hbn hR)) infoRp rfl (rc_one _ _ _ rfl) ?_; intro wb hrb hgrb hszb))
 exact bodyPost_ret (results_hr rfl _ _ _ _ _ _ _ _ _ rfl rfl ((hgrb.block _ (hlt hra) (by simp)).trans hra) hrb) rfl (nexts_end (X := .err h l 1) rfl (bstep hB hB.size hbn) hgra hgrb (hp0.below hbn) (fun hl b off s e => ⟨.inl ⟨rfl, by simp [Nx.err]⟩, by have := hpl.out hl b off s e; omega, by have := hpl.out hl b off s e; omega, by simp [Value.ownBlock]⟩) (OwnInts.nil _ _) (fun x hx => by simp [Value.ownBlock] at hx))
/-- What the reference's NextHouse makes of a house and an act. -/
theorem nextHouse_any (h : Hs) (l : List Pay) (a0 : Option Addr) (cap0 : Nat) (d : Deed) (w : World) (hp : PaysAt w a0 cap0 l) :
  Calls Try.prog 35 #[.agg (hc h (.slice a0 l.length cap0)), .agg (dc d)] w (NextsPost a0 (nextL h l d) w) := by
 cases hg : goodB h l with
 | false => rw [next_bad hg]; exact nh_bad h l a0 cap0 d w hp hg
 | true =>
  have g := goodB_true hg
  obtain ⟨k, a, b, c, n⟩ := d
  by_cases hB : k = 4 ∨ k = 5 ∨ k = 6 ∨ k = 7
  ·exact nh_B h l a0 cap0 k a b c n w hp g hg hB
  ·exact nh_A h l a0 cap0 k a b c n w hp g hg (by omega)
end Go.Proofs.Ytggfdkkhlokmlab


