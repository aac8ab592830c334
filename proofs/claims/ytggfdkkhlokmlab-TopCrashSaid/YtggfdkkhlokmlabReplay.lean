/- bank.Replay: the walk. -/
import Derived.Test.YtggfdkkhlokmlabNextF
import Derived.Test.YtggfdkkhlokmlabPlayMath
import Derived.Test.YtggfdkkhlokmlabCBk1
import Derived.Test.YtggfdkkhlokmlabCLed
namespace Go.Proofs.Ytggfdkkhlokmlab
open Go.RowKit
attribute [local go_sem] hc_pays hc_next hc_size rc_0 rc_1 rc_2 rc_size dc_0 dc_1 dc_2 dc_3 dc_4 dc_size
/-- A house by value, its payments in a new block. -/
def ReplayPost (S : Hs × List Pay) (w : World) (e : Ending) (w' : World) : Prop :=
 (∃ a cap, e = .returned (.agg (hc S.1 (.slice a S.2.length cap))) ∧ PaysAt w' a cap S.2 ∧ (0 < S.2.length → ∀ b off s, a = some ⟨b, off, s⟩ → w.heap.size ≤ b)) ∧ Below w.heap.size w w'
set_option maxRecDepth 100000 in
set_option maxHeartbeats 2000000 in
theorem replay_any (l : List Deed) (a : Option Addr) (cap : Nat) (w : World) (ha : ActsAt w a cap l) : Calls Try.prog 31 #[.slice a l.length cap] w (ReplayPost (replayL l) w) := by
 have hml : l.length ≤ 9223372036854775807 := by have h1 := ha.le; have h2 := ha.capm; unfold maxLen at h2; omega
 replace ha := Lib.hid ha
 go_enter Try.func31, Try.ntmps31
 go_upto_region 1 with fail
 generalize hW : World.alloc w _ = W0
 have hZ0 : W0.heap[w.heap.size]? = some (.cells (hc Hs.zero (.slice none 0 0)) 29 (0, 0)) := by rw [← hW]; exact hnew w _
 have hB0 : Below w.heap.size w W0 := by rw [← hW]; exact (Below.refl _ _).alloc (Nat.le_refl _) _
 clear hW
 go_upto_region 2 with (first | go_skip | (go_at_call 45; refine (new_any _).mono ?_; rintro e w1 ⟨rfl, hb1⟩) | (refine st_new 29 _ _ rfl _ 29 _ rfl rfl rfl (hc Hs.new (.slice none 0 0)) rfl info30 rfl (hc_one _ _ rfl) ?_))
 generalize hW1 : World.alloc w1 _ = W1
 have hN1 : W1.heap[w1.heap.size]? = some (.cells (hc Hs.new (.slice none 0 0)) 29 (0, 0)) := by rw [← hW1]; exact hnew w1 _
 have hZ1 : W1.heap[w.heap.size]? = some (.cells (hc Hs.zero (.slice none 0 0)) 29 (0, 0)) := by rw [← hW1]; exact hold (hkeep hb1 hZ0) _
 have hB1 : Below w.heap.size w W1 := by rw [← hW1]; exact (bstep hB0 hB0.size hb1).alloc (bstep hB0 hB0.size hb1).size _
 have hne : w.heap.size < w1.heap.size := Nat.lt_of_lt_of_le (hlt hZ0) hb1.size
 clear hW1 hZ0 hB0 hb1
 generalize w1.heap.size = q at *
 go_wp2_with fail
 go_loopg [9] l.length (fun g s9 wx => ∃ (k : Nat) (X : Hs) (L : List Pay) (a1 : Option Addr) (cap1 : Nat), replayL (l.take k) = (X, L) ∧ k ≤ l.length ∧ g = l.length - k ∧ s9 = .int .i64 k ∧ wx.heap[q]? = some (.cells (hc X (.slice a1 L.length cap1)) 29 (0, 0)) ∧ wx.heap[w.heap.size]? = some (.cells (hc Hs.zero (.slice none 0 0)) 29 (0, 0)) ∧ PaysAt wx a1 cap1 L ∧ (0 < L.length → ∀ b off s, a1 = some ⟨b, off, s⟩ → w.heap.size < b ∧ b ≠ q) ∧ Below w.heap.size w wx)
 case atStart => exact ⟨0, Hs.new, [], none, 0, rfl, by omega, rfl, rfl, hN1, hZ1, ⟨by simp, by simp, by simp, by simp, by simp⟩, by simp, hB1⟩
 case round =>
  clear hN1 hZ1 hB1
  obtain ⟨k, X, L, a1, cap1, hS, hk, rfl, rfl, hN, hZ, hp, hap, hB⟩ := hrel
  replace hS := Lib.hid hS
  replace hap := Lib.hid hap
  by_cases h4 : k < l.length
  ·have hd4 : decide ((k : Int) < l.length) = true := decide_eq_true (by omega)
   obtain ⟨p, hpk⟩ : ∃ p, l[k]? = some p := ⟨l[k], List.getElem?_eq_getElem h4⟩
   obtain ⟨b1, o1, rfl, _, hc1⟩ := (ha.out.below hB).row (by omega)
   have hcp : ∀ j v, (dc p)[j]? = some v → wr.cell? ⟨b1, o1 + k * 5 + j, none⟩ = some v := fun j v hv => by rw [Nat.add_assoc]; exact hc1 k p hpk j v hv
   have hnx : replayL (l.take (k + 1)) = ((nextL X L p).h, (nextL X L p).l) := by rw [take_more hpk, replay_snoc, hS.out]
   have hrf := fun hc => next_refused (h := X) (l := L) (a := p) hc
   have cN := fun w hp => nexts_any X L a1 cap1 p w hp
   obtain ⟨N, hN'⟩ : ∃ N, nextL X L p = N := ⟨_, rfl⟩
   rw [hN'] at hnx hrf cN
   replace hN' := Lib.hid hN'
   replace cN := Lib.hid cN
   replace hnx := Lib.hid hnx
   replace hrf := Lib.hid hrf
   replace hcp := Lib.hid hcp
   replace hpk := Lib.hid hpk
   clear hc1
   go_upto_region 5 with (first | go_skip | (refine ld_cells 40 _ rfl rfl b1 (o1 + k * 5) rfl (dc p) _ Try.underlying40 rfl info44 hcp.out ?_) | (refine st_new 40 _ _ rfl _ 40 _ rfl rfl rfl (dc p) rfl info44 rfl (dc_one p) ?_))
   have hN2 := hold hN (.cells (dc p) 40)
   have hZ2 := hold hZ (.cells (dc p) 40)
   have hA2 := hnew wr (.cells (dc p) 40)
   have hp2 := hp.alloc (.cells (dc p) 40)
   have hB2 := hB.alloc hB.size (.cells (dc p) 40)
   generalize hWx : World.alloc wr _ = wx at *
   have hle : wr.heap.size ≤ wx.heap.size := by rw [← hWx]; simp
   clear hWx hcp hN hZ hp
   have hBs := hB.size
   go_upto_region 6 with (first | go_skip | (refine ld_row 29 _ rfl rfl _ rfl _ _ _ _ hN2 Try.underlying29 rfl info30 ?_) | (refine ld_row 40 _ rfl rfl _ rfl _ _ _ _ hA2 Try.underlying40 rfl info44 ?_) | (go_at_call 34; refine (cN.out _ hp2).mono ?_; rintro e w3 ⟨⟨a3, cap3, v3, rfl, hp3, _, hs3⟩, hb3⟩) | (refine st_row 29 _ _ rfl rfl _ rfl _ rfl _ _ (hkeep hb3 hN2) info30 rfl (hc_one _ _ rfl) ?_; intro w4 hr4 hgr4 hsz4))
   have hql := hlt hN2
   have hap3 : 0 < N.l.length → ∀ b off s, a3 = some ⟨b, off, s⟩ → w.heap.size < b ∧ b ≠ q := fun hl b off s e => by
    rcases (hs3 hl b off s e).1 with ⟨e1, hc⟩ | hge
    ·have h5 := (hrf.out hc).2.1
     exact hap.out (by rw [← h5]; exact hl) b off s (by rw [← e1]; exact e)
    ·have := hlt hZ2
     omega
   have hZ4 := (hgr4.block _ (hlt (hkeep hb3 hZ2)) (by simp; omega)).trans (hkeep hb3 hZ2)
   have hp4 := payN hp3 hgr4 fun hl b off s e => (hap3 hl b off s e).2
   have hB4 := ((only_new (av := fun b => w.heap.size ≤ b) (bstep hB2 hB2.size hb3)).step (only_grown hgr4) fun b e => by cases e; left; omega).below (Nat.le_refl _) fun _ h => h
   clear hb3 hB2
   replace hap3 := Lib.hid hap3
   go_wp2_with fail
   go_roundg (l.length - (k + 1))
   case measure => omega
   case rel => exact ⟨k + 1, N.h, N.l, a3, cap3, hnx.out, by omega, rfl, by go_num, hr4, hZ4, hp4, hap3.out, hB4⟩
  ·have hd : decide ((k : Int) < l.length) = false := decide_eq_false (by omega)
   obtain rfl : k = l.length := by omega
   replace hS := hS.out
   rw [List.take_length] at hS
   replace hS := Lib.hid hS
   go_wp2_with (first | go_skip | (refine ld_row 29 _ rfl rfl _ rfl _ _ _ _ hN Try.underlying29 rfl info30 ?_) | (refine st_row 29 _ _ rfl rfl _ rfl _ rfl _ _ hZ info30 rfl (hc_one _ _ rfl) ?_; intro w5 hr5 hgr5 hsz5))
   exact bodyPost_ret (results_house rfl _ _ _ _ _ rfl hr5) rfl (by rw [hS.out]; exact ⟨⟨a1, cap1, rfl, payN hp hgr5 fun hl b off s e => by have := hap.out hl b off s e; omega, fun hl b off s e => by have := hap.out hl b off s e; omega⟩, ((only_new (av := fun b => w.heap.size ≤ b) hB).step (only_grown hgr5) fun b e => by cases e; left; omega).below (Nat.le_refl _) fun _ h => h⟩)
end Go.Proofs.Ytggfdkkhlokmlab


