/- BankNexts: the walk. -/
import Derived.Test.YtggfdkkhlokmlabNhF
import Derived.Test.YtggfdkkhlokmlabCMem
import Derived.Test.YtggfdkkhlokmlabCSel
import Derived.Test.YtggfdkkhlokmlabAlive
namespace Go.Proofs.Ytggfdkkhlokmlab
open Go.RowKit
attribute [local go_sem] hc_pays hc_next hc_size rc_0 rc_1 rc_2 rc_size
/-- Two new boxes, both written. -/
theorem two_boxes {w wa wb : World} {A B : Obj} (hga : ((w.alloc A).alloc B).grownBy wa (some w.heap.size)) (hgb : wa.grownBy wb (some (w.heap.size + 1))) : Below w.heap.size w wb :=
  (((only_new (av := fun _ => False) (((Below.refl w.heap.size w).alloc (Nat.le_refl _) A).alloc (by simp) B)).step (only_grown hga) fun b e => by cases e; right; omega).step (only_grown hgb) fun b e => by cases e; right; omega).below (Nat.le_refl _) (fun _ h => h.elim)
set_option maxRecDepth 100000 in
set_option maxHeartbeats 4000000 in
theorem bankNexts_any (h : Hs) (l : List Pay) (a0 : Option Addr) (cap0 : Nat) (d : Deed) (w : World) (hp : PaysAt w a0 cap0 l) :
    Calls Try.prog 8 #[.agg (hc h (.slice a0 l.length cap0)), .agg (dc d)] w fun e w' => e = .returned (.bool true) ∧ Below w.heap.size w w' := by
  have cN := fun a cap w hp => nexts_any h l a cap d w hp
  have cR := fun a cap w hp => nextHouse_any h l a cap d w hp
  obtain ⟨X, hX⟩ : ∃ X, nextL h l d = X := ⟨_, rfl⟩
  rw [hX] at cN cR
  replace hX := Lib.hid hX
  replace cN := Lib.hid cN
  replace cR := Lib.hid cR
  have hgA := heap_alloc2_old w (.cells (hc h (.slice a0 l.length cap0)) 29) (.cells (dc d) 40)
  have hgB := heap_alloc2_new w (.cells (hc h (.slice a0 l.length cap0)) 29) (.cells (dc d) 40)
  replace hp := Lib.hid hp
  go_enter Try.func8, Try.ntmps8
  go_upto_region 1 with fail
  have hB : Below w.heap.size w ((w.alloc (.cells (hc h (.slice a0 l.length cap0)) 29)).alloc (.cells (dc d) 40)) := ((Below.refl w.heap.size w).alloc (Nat.le_refl _) _).alloc (by simp) _
  generalize (w.alloc (.cells (hc h (.slice a0 l.length cap0)) 29)).alloc (.cells (dc d) 40) = W0 at *
  have hp0 := hp.out.below hB
  go_upto_region 2 with (first | go_skip | (refine ld_row 29 _ rfl rfl _ rfl _ _ _ _ hgA Try.underlying29 rfl info30 ?_) | (go_at_call 33; refine (copyHouse_any h l _ cap0 _ hp0).mono ?_; rintro e w1 ⟨⟨v1, rfl, hown⟩, hb1⟩; obtain ⟨a1, cap1, rfl, hp1, hpb1⟩ := hown.at_) | (refine st_new 29 _ _ rfl _ 29 _ rfl rfl rfl (hc h (.slice a1 l.length cap1)) rfl info30 rfl (hc_one _ _ rfl) ?_))
  have hC := hnew w1 (.cells (hc h (.slice a1 l.length cap1)) 29)
  have hL := hb1.alloc hb1.size (.cells (hc h (.slice a1 l.length cap1)) 29)
  replace hgA := hkeep hL hgA
  replace hgB := hkeep hL hgB
  replace hp0 := hp0.below hL
  replace hp1 := hp1.below ((Below.refl _ _).alloc (Nat.le_refl _) (.cells (hc h (.slice a1 l.length cap1)) 29))
  replace hB := bstep hB hB.size hL
  generalize w1.alloc (.cells (hc h (.slice a1 l.length cap1)) 29) = W1 at *
  generalize w1.heap.size = bc at *
  clear hown hb1 hpb1 hL
  go_upto_region 3 with (first | go_skip | (refine ld_row 29 _ rfl rfl _ rfl _ _ _ _ hC Try.underlying29 rfl info30 ?_) | (refine ld_row 40 _ rfl rfl _ rfl _ _ _ _ hgB Try.underlying40 rfl info44 ?_) | (go_at_call 34; refine (cN.out a1 cap1 _ hp1).mono ?_; rintro e w2 ⟨⟨a2, cap2, v2, rfl, hp2, ho2, _⟩, hb2⟩; obtain ⟨al2, cl2, rfl, hi2, _⟩ := ho2.at_) | (refine st_row 29 _ _ rfl rfl _ rfl _ rfl _ _ (heap_alloc2_old _ _ _) info30 rfl (hc_one _ _ rfl) ?_; intro wa hra hgra hsza) | (refine st_row 44 _ _ rfl rfl _ rfl (rc X.code X.n (.slice al2 (nats X.done).length cl2)) rfl _ _ ((hgra.block _ (by simp) (by simp)).trans (heap_alloc2_new _ _ _)) infoRp rfl (rc_one _ _ _ rfl) ?_; intro wb hrb hgrb hszb))
  have hX2 := (hgrb.block _ (hlt hra) (by simp)).trans hra
  have hY2 := hrb
  have hL2 := two_boxes hgra hgrb
  have hL := bstep hb2 hb2.size hL2
  replace hgA := hkeep hL hgA
  replace hgB := hkeep hL hgB
  replace hC := hkeep hL hC
  replace hp0 := hp0.below hL
  replace hp1 := hp1.below hL
  replace hp2 := hp2.below hL2
  replace hi2 := hi2.below hL2
  replace hB := bstep hB hB.size hL
  generalize w2.heap.size = b2 at *
  clear hra hgra hsza hrb hgrb hszb hL hL2 hb2 ho2
  generalize wb = W2 at *
  go_upto_region 4 with (first | go_skip | (refine ld_row 29 _ rfl rfl _ rfl _ _ _ _ hgA Try.underlying29 rfl info30 ?_) | (refine ld_row 40 _ rfl rfl _ rfl _ _ _ _ hgB Try.underlying40 rfl info44 ?_) | (go_at_call 35; refine (cR.out a0 cap0 _ hp0).mono ?_; rintro e w3 ⟨⟨a3, cap3, v3, rfl, hp3, ho3, _⟩, hb3⟩; obtain ⟨al3, cl3, rfl, hi3, _⟩ := ho3.at_) | (refine st_row 29 _ _ rfl rfl _ rfl _ rfl _ _ (heap_alloc2_old _ _ _) info30 rfl (hc_one _ _ rfl) ?_; intro wa hra hgra hsza) | (refine st_row 44 _ _ rfl rfl _ rfl (rc X.code X.n (.slice al3 (nats X.done).length cl3)) rfl _ _ ((hgra.block _ (by simp) (by simp)).trans (heap_alloc2_new _ _ _)) infoRp rfl (rc_one _ _ _ rfl) ?_; intro wb hrb hgrb hszb))
  have hX3 := (hgrb.block _ (hlt hra) (by simp)).trans hra
  have hY3 := hrb
  have hL2 := two_boxes hgra hgrb
  have hL := bstep hb3 hb3.size hL2
  replace hgA := hkeep hL hgA
  replace hC := hkeep hL hC
  replace hX2 := hkeep hL hX2
  replace hY2 := hkeep hL hY2
  replace hp0 := hp0.below hL
  replace hp1 := hp1.below hL
  replace hp2 := hp2.below hL
  replace hi2 := hi2.below hL
  replace hp3 := hp3.below hL2
  replace hi3 := hi3.below hL2
  replace hB := bstep hB hB.size hL
  generalize w3.heap.size = b3 at *
  clear hra hgra hsza hrb hgrb hszb hL hL2 hb3 ho3 hgB
  generalize wb = W3 at *
  rw [nats_len] at hY2 hY3
  go_wp2_with (first | go_skip | (refine ld_row 29 _ rfl rfl _ rfl _ _ _ _ hX2 Try.underlying29 rfl info30 ?_) | (refine ld_row 29 _ rfl rfl _ rfl _ _ _ _ hX3 Try.underlying29 rfl info30 ?_) | (go_at_call 27; refine (sameHouse_eq h l a1 a0 cap1 cap0 _ (hp1.below hb56) (hp0.below hb56)).mono ?_; rintro e w7 ⟨rfl, hb7⟩) | (go_at_call 27; refine (sameHouse_eq X.h X.l a2 a3 cap2 cap3 _ hp2 hp3).mono ?_; rintro e w5 ⟨rfl, hb5⟩) | (refine ld_row 44 _ rfl rfl _ rfl _ _ _ _ (hkeep hb5 hY2) Try.underlying44 rfl infoRp ?_) | (refine ld_row 44 _ rfl rfl _ rfl _ _ _ _ (hkeep hb5 hY3) Try.underlying44 rfl infoRp ?_) | (go_at_call 25; refine (sameReply_eq X.code X.n X.done al2 al3 cl2 cl3 _ (hi2.below hb5) (hi3.below hb5)).mono ?_; rintro e w6 ⟨rfl, hb6⟩; have hb56 := bstep hb5 hb5.size hb6) | (refine ld_row 29 _ rfl rfl _ rfl _ _ _ _ (hkeep hb56 hC) Try.underlying29 rfl info30 ?_) | (refine ld_row 29 _ rfl rfl _ rfl _ _ _ _ (hkeep hb56 hgA) Try.underlying29 rfl info30 ?_) | (go_at_call 36; refine (aliveL_any _).mono ?_; rintro e w8 ⟨rfl, hb8⟩))
  go_ret
  exact ⟨rfl, bstep (bstep (bstep hB hB.size hb56) (bstep hB hB.size hb56).size hb7) (bstep (bstep hB hB.size hb56) (bstep hB hB.size hb56).size hb7).size hb8⟩
end Go.Proofs.Ytggfdkkhlokmlab

