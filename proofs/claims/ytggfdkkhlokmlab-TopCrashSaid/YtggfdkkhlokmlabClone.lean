/- bank's copied: the walk. -/
import Derived.Deep.DeepCutAuto
import Derived.Test.YtggfdkkhlokmlabCMem
import Derived.Test.YtggfdkkhlokmlabCSel
namespace Go.Proofs.Ytggfdkkhlokmlab
open Go.RowKit
attribute [local go_sem] hc_pays hc_next hc_size
def CopiedPost (h : Hs) (l : List Pay) (w : World) (e : Ending) (w' : World) : Prop := (∃ v, e = .returned (.agg (hc h v)) ∧ OwnPays w' w.heap.size v l) ∧ Below w.heap.size w w'
set_option maxRecDepth 100000 in
set_option maxHeartbeats 1000000 in
theorem copied_any (h : Hs) (l : List Pay) (a : Option Addr) (cap : Nat) (w : World) (hp : PaysAt w a cap l) :
  Calls Try.prog 51 #[.agg (hc h (.slice a l.length cap))] w (CopiedPost h l w) := by
 replace hp := Lib.hid hp
 go_enter Try.func51, Try.ntmps51
 go_upto_region 1 with fail
 generalize hW : World.alloc (World.alloc w _) _ = W0
 have hgA : W0.heap[w.heap.size]? = some (.cells (hc h (.slice a l.length cap)) 29 (0, 0)) := by rw [← hW]; exact heap_alloc2_old w _ _
 have hgZ : W0.heap[w.heap.size + 1]? = some (.cells (hc Hs.zero (.slice none 0 0)) 29 (0, 0)) := by rw [← hW]; exact heap_alloc2_new w _ _
 have hB : Below w.heap.size w W0 := by rw [← hW]; exact ((Below.refl w.heap.size w).alloc (Nat.le_refl _) _).alloc (by simp) _
 have hp0 := hp.out.below hB
 have cA := cells_at hgA
 clear hW
 go_wp2_with (first | go_skip | (go_at_call 71; refine (clone_any l a cap _ hp0).mono ?_; rintro e w1 ⟨⟨v, rfl, hown⟩, hb1⟩; obtain ⟨a1, cap1, rfl, _, _⟩ := hown.at_; have cB := cells_at (hkeep hb1 hgA); have fB := frozenAt (hkeep hb1 hgA); have hgB : (w1.setCell ⟨w.heap.size, 40, none⟩ (.slice a1 l.length cap1)).heap[w.heap.size]? = some (.cells (hc h (.slice a1 l.length cap1)) 29 (0, 0)) := hsetSame (hkeep hb1 hgA) _; have hgY : (w1.setCell ⟨w.heap.size, 40, none⟩ (.slice a1 l.length cap1)).heap[w.heap.size + 1]? = some (.cells (hc Hs.zero (.slice none 0 0)) 29 (0, 0)) := hsetOther (hkeep hb1 hgZ) (by omega) _; replace hgB := Lib.hid hgB; replace hgY := Lib.hid hgY; replace hown := Lib.hid hown) | (refine ld_row 29 _ rfl rfl _ rfl _ _ _ _ hgB.out Try.underlying29 rfl info30 ?_) | (refine st_row 29 _ _ rfl rfl _ rfl _ rfl _ _ hgY.out info30 rfl (hc_one _ _ rfl) ?_; intro w2 hr hgr hsz))
 have hsz0 := hlt hgZ
 refine bodyPost_ret (results_house rfl _ _ _ _ _ rfl hr) rfl ⟨⟨_, rfl, ?_⟩, ?_⟩
 ·refine OwnPays.mono (base := W0.heap.size) (hown.out.keep fun g hg => ?_) (by omega)
  have hsz1 := hb1.size
  by_cases hlt : g < w1.heap.size
  ·exact (hgr.block g (by simp [World.setCell]; omega) (by simp; omega)).trans (heap_setCell_other _ _ _ _ (by simp; omega))
  ·have e1 : w1.heap[g]? = none := by simp; omega
   have e2 : w2.heap[g]? = none := by simp [hsz, World.setCell]; omega
   rw [e1, e2]
 ·exact ((bstep hB hB.size hb1).setCell (p := ⟨w.heap.size, 40, none⟩) (Nat.le_refl _) _).grown hgr (by simp [World.setCell]; have := (bstep hB hB.size hb1).size; exact this) (fun k hk => by cases hk; omega)
end Go.Proofs.Ytggfdkkhlokmlab


