/- Sweeping whatever house: queue.Sweep and the reference's SweepHouse. -/
import Derived.Test.YtggfdkkhlokmlaaSweepHouse
import Derived.Test.YtggfdkkhlokmlaaIsHouse
import Derived.Test.YtggfdkkhlokmlaaBankMath
namespace Go.Proofs.Ytggfdkkhlokmlaa
open Go.RowKit
attribute [local go_sem] hc_pays hc_next hc_size pc_0 pc_1 pc_2 pc_3 pc_4 pc_5
set_option maxRecDepth 100000 in
set_option maxHeartbeats 1000000 in
theorem sweep_bad (h : Hs) (l : List Pay) (a : Option Addr) (cap : Nat) (w : World) (hp : PaysAt w a cap l) (hgb : goodB h l = false) :
    Calls Try.prog 42 #[.agg (hc h (.slice a l.length cap))] w (SweepPost ⟨h, l, []⟩ w) := by
  replace hgb := Lib.hid hgb
  replace hp := Lib.hid hp
  go_enter Try.func42, Try.ntmps42
  go_upto_region 1 with fail
  generalize hW : World.alloc (World.alloc w _) _ = W0
  have hgA : W0.heap[w.heap.size]? = some (.cells (hc h (.slice a l.length cap)) 30 (0, 0)) := by rw [← hW]; exact heap_alloc2_old w _ _
  have hgZ : W0.heap[w.heap.size + 1]? = some (.cells (hc Hs.zero (.slice none 0 0)) 30 (0, 0)) := by rw [← hW]; exact heap_alloc2_new w _ _
  have hB : Below w.heap.size w W0 := by rw [← hW]; exact ((Below.refl w.heap.size w).alloc (Nat.le_refl _) _).alloc (by simp) _
  have hp0 := hp.out.below hB
  clear hW
  go_wp2_with (first | go_skip | (refine ld_row 30 _ rfl rfl _ rfl _ _ _ _ hgA Try.underlying30 rfl info30 ?_) | (go_at_call 16; refine (good_any h l _ cap _ hp0).mono ?_; rintro e w1 ⟨rfl, hb1⟩; rw [hgb.out]) | (refine ld_row 30 _ rfl rfl _ rfl _ _ _ _ (hkeep hb1 hgA) Try.underlying30 rfl info30 ?_) | (refine st_row 30 _ _ rfl rfl _ rfl _ rfl _ _ (hkeep hb1 hgZ) info30 rfl (hc_one _ _ rfl) ?_; intro w5 hr5 hgr5 hsz5))
  have hZ1 := hkeep hb1 hgZ
  have hB1 : Below w.heap.size w w1 := hB.trans (hb1.mono hB.size)
  have hB5 : Below w.heap.size w w5 := hB1.grown hgr5 hB1.size (fun k hk => by cases hk; omega)
  exact bodyPost_ret (results_house2 rfl _ _ _ _ _ rfl hr5) rfl ⟨⟨a, cap, .slice none 0 0, rfl, hp.out.below hB5, OwnInts.nil _ _⟩, hB5⟩
set_option maxRecDepth 100000 in
set_option maxHeartbeats 1000000 in
theorem sweepHouse_bad (h : Hs) (l : List Pay) (a : Option Addr) (cap : Nat) (w : World) (hp : PaysAt w a cap l) (hgb : goodB h l = false) :
    Calls Try.prog 43 #[.agg (hc h (.slice a l.length cap))] w (SweepPost ⟨h, l, []⟩ w) := by
  replace hgb := Lib.hid hgb
  replace hp := Lib.hid hp
  go_enter Try.func43, Try.ntmps43
  go_upto_region 1 with fail
  generalize hW : World.alloc (World.alloc w _) _ = W0
  have hgA : W0.heap[w.heap.size]? = some (.cells (hc h (.slice a l.length cap)) 30 (0, 0)) := by rw [← hW]; exact heap_alloc2_old w _ _
  have hgZ : W0.heap[w.heap.size + 1]? = some (.cells (hc Hs.zero (.slice none 0 0)) 30 (0, 0)) := by rw [← hW]; exact heap_alloc2_new w _ _
  have hB : Below w.heap.size w W0 := by rw [← hW]; exact ((Below.refl w.heap.size w).alloc (Nat.le_refl _) _).alloc (by simp) _
  have hp0 := hp.out.below hB
  clear hW
  go_wp2_with (first | go_skip | (refine ld_row 30 _ rfl rfl _ rfl _ _ _ _ hgA Try.underlying30 rfl info30 ?_) | (go_at_call 17; refine (isHouse_any h l _ cap _ hp0).mono ?_; rintro e w1 ⟨rfl, hb1⟩; rw [hgb.out]) | (refine ld_row 30 _ rfl rfl _ rfl _ _ _ _ (hkeep hb1 hgA) Try.underlying30 rfl info30 ?_) | (refine st_row 30 _ _ rfl rfl _ rfl _ rfl _ _ (hkeep hb1 hgZ) info30 rfl (hc_one _ _ rfl) ?_; intro w5 hr5 hgr5 hsz5))
  have hZ1 := hkeep hb1 hgZ
  have hB1 : Below w.heap.size w w1 := hB.trans (hb1.mono hB.size)
  have hB5 : Below w.heap.size w w5 := hB1.grown hgr5 hB1.size (fun k hk => by cases hk; omega)
  exact bodyPost_ret (results_house2 rfl _ _ _ _ _ rfl hr5) rfl ⟨⟨a, cap, .slice none 0 0, rfl, hp.out.below hB5, OwnInts.nil _ _⟩, hB5⟩
theorem sweep_any (h : Hs) (l : List Pay) (a : Option Addr) (cap : Nat) (w : World) (hp : PaysAt w a cap l) : Calls Try.prog 42 #[.agg (hc h (.slice a l.length cap))] w (SweepPost (sweepG h l) w) := by
  cases hg : goodB h l with
  | false => rw [show sweepG h l = ⟨h, l, []⟩ from by simp [sweepG, hg]]; exact sweep_bad h l a cap w hp hg
  | true => rw [show sweepG h l = sweepS ⟨h, l, []⟩ from by simp [sweepG, hg]]; exact sweep_good h l a cap w hp (goodB_true hg)
theorem sweepHouse_any (h : Hs) (l : List Pay) (a : Option Addr) (cap : Nat) (w : World) (hp : PaysAt w a cap l) : Calls Try.prog 43 #[.agg (hc h (.slice a l.length cap))] w (SweepPost (sweepG h l) w) := by
  cases hg : goodB h l with
  | false => rw [show sweepG h l = ⟨h, l, []⟩ from by simp [sweepG, hg]]; exact sweepHouse_bad h l a cap w hp hg
  | true => rw [show sweepG h l = sweepS ⟨h, l, []⟩ from by simp [sweepG, hg]]; exact sweepHouse_good h l a cap w hp (goodB_true hg)
end Go.Proofs.Ytggfdkkhlokmlaa
