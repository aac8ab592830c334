/- QueueTells: the walk. -/
import Derived.Test.YtggfdkkhlokmlaaQueues
import Derived.Test.YtggfdkkhlokmlaaReply
import Derived.Test.YtggfdkkhlokmlaaTells
namespace Go.Proofs.Ytggfdkkhlokmlaa
open Go.RowKit
attribute [local go_sem] hc_pays hc_next hc_size
set_option maxRecDepth 100000 in
set_option maxHeartbeats 4000000 in
theorem queueTells_any (h : Hs) (l : List Pay) (a : Option Addr) (cap : Nat) (who n : Int) (w : World) (hp : PaysAt w a cap l) :
    Calls Try.prog 9 #[.agg (hc h (.slice a l.length cap)), .int .i64 who, .int .i64 n] w fun e w' => e = .returned (.bool true) ∧ Below w.heap.size w w' := by
  obtain ⟨T, hT⟩ : ∃ T, sweepG h l = T := ⟨_, rfl⟩
  have hg := hnew w (.cells (hc h (.slice a l.length cap)) 30)
  cases hG : goodB h l
  all_goals
    replace hG := Lib.hid hG
    go_enter Try.func9, Try.ntmps9
    go_wp2_with (first | go_skip | (refine ld_row 30 _ rfl rfl _ rfl _ _ _ _ hg Try.underlying30 rfl info30 ?_))
    refine (copyHouse_any h l a cap _ (hp.alloc _)).mono ?_
    rintro e w1 ⟨⟨v, rfl, hO⟩, hb1⟩
    obtain ⟨a', cap', rfl, hpc, _⟩ := hO.at_
    have hg1 := hkeep hb1 hg
    have hB1 : Below w.heap.size w w1 := bstep ((Below.refl _ _).alloc (Nat.le_refl _) _) (by simp) hb1
    have hp1 := (hp.alloc (.cells (hc h (.slice a l.length cap)) 30)).below hb1
    have hgA := hold hg1 (.cells (hc h (.slice a' l.length cap')) 30)
    have hgC := hnew w1 (.cells (hc h (.slice a' l.length cap')) 30)
    have hpA := hp1.alloc (.cells (hc h (.slice a' l.length cap')) 30)
    have hpC := hpc.alloc (.cells (hc h (.slice a' l.length cap')) 30)
    have hB := hB1.alloc hB1.size (.cells (hc h (.slice a' l.length cap')) 30)
    clear hg hg1 hp1 hb1 hO hpc hB1
    replace hgA := Lib.hid hgA
    replace hgC := Lib.hid hgC
    go_upto_region 2 with (first | go_skip | (refine st_new 30 _ _ rfl _ 30 _ rfl rfl rfl (hc h (.slice a' l.length cap')) rfl info30 rfl (hc_one _ _ rfl) ?_))
    replace hgA := hgA.out
    replace hgC := hgC.out
    generalize hW : w1.alloc (.cells (hc h (.slice a' l.length cap')) 30) = W at *
    generalize hC0 : w1.heap.size = cb at *
    clear hW
    go_wp2_with (first | go_skip | (refine ld_row 30 _ rfl rfl _ rfl _ _ _ _ hgC Try.underlying30 rfl info30 ?_))
    refine (sweep_any h l a' cap' _ hpC).mono ?_
    rw [hT]
    rintro e w2 ⟨⟨a2, cap2, v2, rfl, hp2, hO2⟩, hb2⟩
    obtain ⟨al, cl, rfl, hi2, _⟩ := hO2.at_
    rw [nats_len]
    clear hO2
    replace hgA := hkeep hb2 hgA
    replace hgC := hkeep hb2 hgC
    replace hpA := hpA.below hb2
    replace hpC := hpC.below hb2
    replace hB := bstep hB hB.size hb2
    clear hb2
    have hg2 := hnew w2 (.cells (hc T.h (.slice a2 T.l.length cap2)) 30)
    replace hgA := hold hgA (.cells (hc T.h (.slice a2 T.l.length cap2)) 30)
    replace hgC := hold hgC (.cells (hc T.h (.slice a2 T.l.length cap2)) 30)
    replace hpA := hpA.alloc (.cells (hc T.h (.slice a2 T.l.length cap2)) 30)
    replace hpC := hpC.alloc (.cells (hc T.h (.slice a2 T.l.length cap2)) 30)
    replace hp2 := hp2.alloc (.cells (hc T.h (.slice a2 T.l.length cap2)) 30)
    replace hi2 := hi2.alloc (.cells (hc T.h (.slice a2 T.l.length cap2)) 30)
    replace hB := hB.alloc hB.size (.cells (hc T.h (.slice a2 T.l.length cap2)) 30)
    replace hgA := Lib.hid hgA
    replace hgC := Lib.hid hgC
    replace hg2 := Lib.hid hg2
    go_upto_region 3 with (first | go_skip | (refine st_new 30 _ _ rfl _ 30 _ rfl rfl rfl (hc T.h (.slice a2 T.l.length cap2)) rfl info30 rfl (hc_one _ _ rfl) ?_))
    replace hgA := hgA.out
    replace hgC := hgC.out
    replace hg2 := hg2.out
    generalize hW : w2.alloc (.cells (hc T.h (.slice a2 T.l.length cap2)) 30) = W2 at *
    generalize hC2 : w2.heap.size = cb2 at *
    clear hW
    go_wp2_with (first | go_skip | (refine ld_row 30 _ rfl rfl _ rfl _ _ _ _ hgA Try.underlying30 rfl info30 ?_))
    refine (sweepHouse_any h l a cap _ hpA).mono ?_
    rw [hT]
    rintro e w3 ⟨⟨a3, cap3, v3, rfl, hp3, hO3⟩, hb3⟩
    obtain ⟨am, cm, rfl, hi3, _⟩ := hO3.at_
    rw [nats_len]
    clear hO3
    replace hgA := hkeep hb3 hgA
    replace hgC := hkeep hb3 hgC
    replace hg2 := hkeep hb3 hg2
    replace hpA := hpA.below hb3
    replace hpC := hpC.below hb3
    replace hp2 := hp2.below hb3
    replace hi2 := hi2.below hb3
    replace hB := bstep hB hB.size hb3
    clear hb3
    have hg3 := hnew w3 (.cells (hc T.h (.slice a3 T.l.length cap3)) 30)
    replace hgA := hold hgA (.cells (hc T.h (.slice a3 T.l.length cap3)) 30)
    replace hgC := hold hgC (.cells (hc T.h (.slice a3 T.l.length cap3)) 30)
    replace hg2 := hold hg2 (.cells (hc T.h (.slice a3 T.l.length cap3)) 30)
    replace hpA := hpA.alloc (.cells (hc T.h (.slice a3 T.l.length cap3)) 30)
    replace hpC := hpC.alloc (.cells (hc T.h (.slice a3 T.l.length cap3)) 30)
    replace hp2 := hp2.alloc (.cells (hc T.h (.slice a3 T.l.length cap3)) 30)
    replace hi2 := hi2.alloc (.cells (hc T.h (.slice a3 T.l.length cap3)) 30)
    replace hp3 := hp3.alloc (.cells (hc T.h (.slice a3 T.l.length cap3)) 30)
    replace hi3 := hi3.alloc (.cells (hc T.h (.slice a3 T.l.length cap3)) 30)
    replace hB := hB.alloc hB.size (.cells (hc T.h (.slice a3 T.l.length cap3)) 30)
    replace hgA := Lib.hid hgA
    replace hgC := Lib.hid hgC
    replace hg2 := Lib.hid hg2
    replace hg3 := Lib.hid hg3
    go_upto_region 4 with (first | go_skip | (refine st_new 30 _ _ rfl _ 30 _ rfl rfl rfl (hc T.h (.slice a3 T.l.length cap3)) rfl info30 rfl (hc_one _ _ rfl) ?_))
    replace hgA := hgA.out
    replace hgC := hgC.out
    replace hg2 := hg2.out
    replace hg3 := hg3.out
    generalize hW : w3.alloc (.cells (hc T.h (.slice a3 T.l.length cap3)) 30) = W3 at *
    generalize hC3 : w3.heap.size = cb3 at *
    clear hW
    go_wp2_with (first | go_skip | (refine ld_row 30 _ rfl rfl _ rfl _ _ _ _ hg2 Try.underlying30 rfl info30 ?_) | (refine ld_row 30 _ rfl rfl _ rfl _ _ _ _ hg3 Try.underlying30 rfl info30 ?_))
    refine (sameHouse_eq T.h T.l a2 a3 cap2 cap3 _ hp2 hp3).mono ?_
    rintro e w4 ⟨rfl, hb4⟩
    replace hgA := hkeep hb4 hgA
    replace hgC := hkeep hb4 hgC
    replace hg2 := hkeep hb4 hg2
    replace hg3 := hkeep hb4 hg3
    replace hpA := hpA.below hb4
    replace hpC := hpC.below hb4
    replace hp2 := hp2.below hb4
    replace hi2 := hi2.below hb4
    replace hp3 := hp3.below hb4
    replace hi3 := hi3.below hb4
    replace hB := bstep hB hB.size hb4
    clear hb4
    go_wp2_with fail
    refine (sameInts_eq T.d al am cl cm _ hi2 hi3).mono ?_
    rintro e w5 ⟨rfl, hb5⟩
    replace hgA := hkeep hb5 hgA
    replace hgC := hkeep hb5 hgC
    replace hg2 := hkeep hb5 hg2
    replace hg3 := hkeep hb5 hg3
    replace hpA := hpA.below hb5
    replace hpC := hpC.below hb5
    replace hp2 := hp2.below hb5
    replace hi2 := hi2.below hb5
    replace hp3 := hp3.below hb5
    replace hi3 := hi3.below hb5
    replace hB := bstep hB hB.size hb5
    clear hb5
    go_wp2_with (first | go_skip | (refine ld_row 30 _ rfl rfl _ rfl _ _ _ _ hgC Try.underlying30 rfl info30 ?_) | (refine ld_row 30 _ rfl rfl _ rfl _ _ _ _ hgA Try.underlying30 rfl info30 ?_))
    refine (sameHouse_eq h l a' a cap' cap _ hpC hpA).mono ?_
    rintro e w6 ⟨rfl, hb6⟩
    replace hgA := hkeep hb6 hgA
    replace hgC := hkeep hb6 hgC
    replace hg2 := hkeep hb6 hg2
    replace hg3 := hkeep hb6 hg3
    replace hpA := hpA.below hb6
    replace hpC := hpC.below hb6
    replace hp2 := hp2.below hb6
    replace hi2 := hi2.below hb6
    replace hp3 := hp3.below hb6
    replace hi3 := hi3.below hb6
    replace hB := bstep hB hB.size hb6
    clear hb6
    go_wp2_with fail
    refine (queuesL_any _).mono ?_
    rintro e w7 ⟨rfl, hb7⟩
    replace hgA := hkeep hb7 hgA
    replace hgC := hkeep hb7 hgC
    replace hg2 := hkeep hb7 hg2
    replace hg3 := hkeep hb7 hg3
    replace hpA := hpA.below hb7
    replace hpC := hpC.below hb7
    replace hp2 := hp2.below hb7
    replace hi2 := hi2.below hb7
    replace hp3 := hp3.below hb7
    replace hi3 := hi3.below hb7
    replace hB := bstep hB hB.size hb7
    clear hb7
    clear hg2 hg3 hp2 hi2 hp3 hi3
    go_upto_region 6 with fail
  · refine calm_region (Below w7.heap.size w7) (by kernel_rfl) (by kernel_rfl) (calm_start w7) ?_
    repeat (first | go_big_quiet_skip | (go_big_quiet_want; first | (refine calm_row 30 _ rfl _ rfl _ _ _ _ (calm_heap hgA) Try.underlying30 rfl info30 ?_; (try simp only [Act.put]); (try simp only [List.setIfInBounds_toArray]); (try simp only [List.set_cons_succ]); (try simp only [List.set_cons_zero]); go_big_quiet_on) | (go_big_quiet_op; first | go_big_quiet_on | go_big_quiet_call (first | (go_at_call 17; rename_i x; exact calm_call (calm_below _) (isHouse_val hG.out a cap _ (hpA.below x.ok)))))))
    refine wpQuiet_nil ?_
    intro w8 hI
    replace hB := bstep hB hB.size hI
    go_wp2_with fail
    go_ret
    exact ⟨rfl, hB⟩
  · have hgd := goodB_true hG.out
    have hroom := hgd.room
    have hnd := hgd.nodup
    clear hgd
    refine wpG_start (Below w7.heap.size w7) 26 (by kernel_rfl) ?_
    have hI0 : Below w7.heap.size w7 w7.drew := (Below.refl _ _).drew
    replace hgA := Lib.hid hgA
    replace hgC := Lib.hid hgC
    replace hpA := Lib.hid hpA
    replace hpC := Lib.hid hpC
    replace hnd := Lib.hid hnd
    replace hB := Lib.hid hB
    refine wpG_first (i := 0) (oi := _) (v := (.agg (hc h (.slice a l.length cap)))) [0] rfl (by kernel_rfl) (by kernel_rfl) (by kernel_rfl) (by kernel_rfl) (fun _ _ _ h => h) hI0 ?hy0 ?rs0
    case hy0 => exact yields_row 30 _ rfl rfl _ rfl _ _ _ _ (fun w' hb => hkeep hb hgA.out) Try.underlying30 rfl info30
    (try simp only [Act.put]); (try simp only [List.setIfInBounds_toArray]); (try simp only [List.set_cons_succ]); (try simp only [List.set_cons_zero]); (try simp only [List.size_toArray])
    refine wpG_one (i := 1) (by kernel_rfl) rfl ?_
    go_wp2_with (go_at_call 17; refine (isHouse_val hG.out a cap _ (hpA.out.below hI0)).mono ?_; rintro e x1 ⟨rfl, hc1⟩)
    have hI1 := hI0.trans (hc1.mono hI0.size)
    refine ⟨hI1, ?_⟩
    replace hI0 := hI1
    (try simp only [Act.put]); (try simp only [List.setIfInBounds_toArray]); (try simp only [List.set_cons_succ]); (try simp only [List.set_cons_zero]); (try simp only [List.size_toArray])
    refine wpG_first (i := 2) (oi := _) (v := (.bool false)) [2] rfl (by kernel_rfl) (by kernel_rfl) (by kernel_rfl) (by kernel_rfl) (fun _ _ _ h => h) hI0 ?hy2 ?rs2
    case hy2 => exact Or.inl ⟨by rfl, by intro w' hb; go_simp⟩
    (try simp only [Act.put]); (try simp only [List.setIfInBounds_toArray]); (try simp only [List.set_cons_succ]); (try simp only [List.set_cons_zero]); (try simp only [List.size_toArray])
    refine wpG_first (i := 3) (oi := _) (v := (.bool false)) [3] rfl (by kernel_rfl) (by kernel_rfl) (by kernel_rfl) (by kernel_rfl) (fun _ _ _ h => h) hI0 ?hy3 ?rs3
    case hy3 => exact Or.inl ⟨by rfl, by intro w' hb; go_simp⟩
    (try simp only [Act.put]); (try simp only [List.setIfInBounds_toArray]); (try simp only [List.set_cons_succ]); (try simp only [List.set_cons_zero]); (try simp only [List.size_toArray])
    refine wpG_first (i := 4) (oi := _) (v := (.agg (hc h (.slice a' l.length cap')))) [4] rfl (by kernel_rfl) (by kernel_rfl) (by kernel_rfl) (by kernel_rfl) (fun _ _ _ h => h) hI0 ?hy4 ?rs4
    case hy4 => exact yields_row 30 _ rfl rfl _ rfl _ _ _ _ (fun w' hb => hkeep hb hgC.out) Try.underlying30 rfl info30
    (try simp only [Act.put]); (try simp only [List.setIfInBounds_toArray]); (try simp only [List.set_cons_succ]); (try simp only [List.set_cons_zero]); (try simp only [List.size_toArray])
    refine wpG_first (i := 5) (oi := _) (v := (.int .i64 who)) [5] rfl (by kernel_rfl) (by kernel_rfl) (by kernel_rfl) (by kernel_rfl) (fun _ _ _ h => h) hI0 ?hy5 ?rs5
    case hy5 => exact Or.inl ⟨by rfl, by intro w' hb; go_simp⟩
    (try simp only [Act.put]); (try simp only [List.setIfInBounds_toArray]); (try simp only [List.set_cons_succ]); (try simp only [List.set_cons_zero]); (try simp only [List.size_toArray])
    refine wpG_first (i := 7) (oi := _) (v := (.agg (hc h (.slice a l.length cap)))) [7] rfl (by kernel_rfl) (by kernel_rfl) (by kernel_rfl) (by kernel_rfl) (fun _ _ _ h => h) hI0 ?hy7 ?rs7
    case hy7 => exact yields_row 30 _ rfl rfl _ rfl _ _ _ _ (fun w' hb => hkeep hb hgA.out) Try.underlying30 rfl info30
    (try simp only [Act.put]); (try simp only [List.setIfInBounds_toArray]); (try simp only [List.set_cons_succ]); (try simp only [List.set_cons_zero]); (try simp only [List.size_toArray])
    refine wpG_first (i := 8) (oi := _) (v := (.int .i64 who)) [8] rfl (by kernel_rfl) (by kernel_rfl) (by kernel_rfl) (by kernel_rfl) (fun _ _ _ h => h) hI0 ?hy8 ?rs8
    case hy8 => exact Or.inl ⟨by rfl, by intro w' hb; go_simp⟩
    (try simp only [Act.put]); (try simp only [List.setIfInBounds_toArray]); (try simp only [List.set_cons_succ]); (try simp only [List.set_cons_zero]); (try simp only [List.size_toArray])
    refine wpG_one (i := 6) (by kernel_rfl) rfl ?_
    go_wp2_with (go_at_call 46; refine (of_any h l a' cap' who _ (hpC.out.below hI0)).mono ?_; rintro e x2 ⟨⟨v1, xs, rfl, hq1, ho1⟩, hc2⟩)
    have hI2 := hI0.trans (hc2.mono hI0.size)
    refine ⟨hI2, ?_⟩
    replace hI0 := hI2
    (try simp only [Act.put]); (try simp only [List.setIfInBounds_toArray]); (try simp only [List.set_cons_succ]); (try simp only [List.set_cons_zero]); (try simp only [List.size_toArray])
    obtain ⟨a4, cap4, rfl, hi4, _⟩ := ho1.at_
    rw [nats_len]
    replace hi4 := Lib.hid hi4
    replace hq1 := Lib.hid (hq1.eq hnd.out)
    clear ho1
    refine wpG_one (i := 9) (by kernel_rfl) rfl ?_
    go_wp2_with (go_at_call 47; refine (queueOf_any h l a cap who _ (hpA.out.below hI0)).mono ?_; rintro e x3 ⟨⟨v2, ys, rfl, hq2, ho2⟩, hc3⟩)
    have hI3 := hI0.trans (hc3.mono hI0.size)
    refine ⟨hI3, ?_⟩
    replace hI0 := hI3
    (try simp only [Act.put]); (try simp only [List.setIfInBounds_toArray]); (try simp only [List.set_cons_succ]); (try simp only [List.set_cons_zero]); (try simp only [List.size_toArray])
    obtain ⟨a5, cap5, rfl, hi5, _⟩ := ho2.at_
    rw [nats_len]
    obtain rfl : ys = xs := (hq2.eq hnd.out).trans hq1.out.symm
    replace hi5 := Lib.hid hi5
    have hi4' := hi4.out.below hc3
    replace hi4 := Lib.hid hi4'
    clear ho2 hq2 hi4'
    refine wpG_one (i := 10) (by kernel_rfl) rfl ?_
    go_wp2_with (go_at_call 44; refine (sameInts_eq ys a4 a5 cap4 cap5 _ hi4.out hi5.out).mono ?_; rintro e x4 ⟨rfl, hc4⟩)
    have hI4 := hI0.trans (hc4.mono hI0.size)
    refine ⟨hI4, ?_⟩
    replace hI0 := hI4
    (try simp only [Act.put]); (try simp only [List.setIfInBounds_toArray]); (try simp only [List.set_cons_succ]); (try simp only [List.set_cons_zero]); (try simp only [List.size_toArray])
    refine wpG_first (i := 11) (oi := _) (v := (.bool true)) [11] rfl (by kernel_rfl) (by kernel_rfl) (by kernel_rfl) (by kernel_rfl) (fun _ _ _ h => h) hI0 ?hy11 ?rs11
    case hy11 => exact Or.inl ⟨by rfl, by intro w' hb; go_simp⟩
    (try simp only [Act.put]); (try simp only [List.setIfInBounds_toArray]); (try simp only [List.set_cons_succ]); (try simp only [List.set_cons_zero]); (try simp only [List.size_toArray])
    refine wpG_first (i := 12) (oi := _) (v := (.agg (hc h (.slice a' l.length cap')))) [12] rfl (by kernel_rfl) (by kernel_rfl) (by kernel_rfl) (by kernel_rfl) (fun _ _ _ h => h) hI0 ?hy12 ?rs12
    case hy12 => exact yields_row 30 _ rfl rfl _ rfl _ _ _ _ (fun w' hb => hkeep hb hgC.out) Try.underlying30 rfl info30
    (try simp only [Act.put]); (try simp only [List.setIfInBounds_toArray]); (try simp only [List.set_cons_succ]); (try simp only [List.set_cons_zero]); (try simp only [List.size_toArray])
    refine wpG_first (i := 13) (oi := _) (v := (.int .i64 n)) [13] rfl (by kernel_rfl) (by kernel_rfl) (by kernel_rfl) (by kernel_rfl) (fun _ _ _ h => h) hI0 ?hy13 ?rs13
    case hy13 => exact Or.inl ⟨by rfl, by intro w' hb; go_simp⟩
    (try simp only [Act.put]); (try simp only [List.setIfInBounds_toArray]); (try simp only [List.set_cons_succ]); (try simp only [List.set_cons_zero]); (try simp only [List.size_toArray])
    refine wpG_first (i := 15) (oi := _) (v := (.agg (hc h (.slice a l.length cap)))) [15] rfl (by kernel_rfl) (by kernel_rfl) (by kernel_rfl) (by kernel_rfl) (fun _ _ _ h => h) hI0 ?hy15 ?rs15
    case hy15 => exact yields_row 30 _ rfl rfl _ rfl _ _ _ _ (fun w' hb => hkeep hb hgA.out) Try.underlying30 rfl info30
    (try simp only [Act.put]); (try simp only [List.setIfInBounds_toArray]); (try simp only [List.set_cons_succ]); (try simp only [List.set_cons_zero]); (try simp only [List.size_toArray])
    refine wpG_first (i := 16) (oi := _) (v := (.int .i64 n)) [16] rfl (by kernel_rfl) (by kernel_rfl) (by kernel_rfl) (by kernel_rfl) (fun _ _ _ h => h) hI0 ?hy16 ?rs16
    case hy16 => exact Or.inl ⟨by rfl, by intro w' hb; go_simp⟩
    (try simp only [Act.put]); (try simp only [List.setIfInBounds_toArray]); (try simp only [List.set_cons_succ]); (try simp only [List.set_cons_zero]); (try simp only [List.size_toArray])
    refine wpG_one (i := 14) (by kernel_rfl) rfl ?_
    go_wp2_with (go_at_call 48; refine (settle_any h l a' cap' n _ (hpC.out.below hI0) hroom).mono ?_; rintro e x5 ⟨⟨a6, cap6, rfl, hp6⟩, hc5⟩)
    have hI5 := hI0.trans (hc5.mono hI0.size)
    refine ⟨hI5, ?_⟩
    replace hI0 := hI5
    (try simp only [Act.put]); (try simp only [List.setIfInBounds_toArray]); (try simp only [List.set_cons_succ]); (try simp only [List.set_cons_zero]); (try simp only [List.size_toArray])
    replace hp6 := Lib.hid hp6
    refine wpG_one (i := 17) (by kernel_rfl) rfl ?_
    go_wp2_with (go_at_call 49; refine (settlePay_any h l a cap n _ (hpA.out.below hI0) hroom).mono ?_; rintro e x6 ⟨⟨a7, cap7, rfl, hp7⟩, hc6⟩)
    have hI6 := hI0.trans (hc6.mono hI0.size)
    refine ⟨hI6, ?_⟩
    replace hI0 := hI6
    (try simp only [Act.put]); (try simp only [List.setIfInBounds_toArray]); (try simp only [List.set_cons_succ]); (try simp only [List.set_cons_zero]); (try simp only [List.size_toArray])
    have hp6' := hp6.out.below hc6
    replace hp6 := Lib.hid hp6'
    replace hp7 := Lib.hid hp7
    clear hp6'
    refine wpG_one (i := 18) (by kernel_rfl) rfl ?_
    go_wp2_with (go_at_call 18; refine (sameHouse_eq (settleH h l n) (settleL l n) a6 a7 cap6 cap7 _ hp6.out hp7.out).mono ?_; rintro e x7 ⟨rfl, hc7⟩)
    have hI7 := hI0.trans (hc7.mono hI0.size)
    refine ⟨hI7, ?_⟩
    replace hI0 := hI7
    (try simp only [Act.put]); (try simp only [List.setIfInBounds_toArray]); (try simp only [List.set_cons_succ]); (try simp only [List.set_cons_zero]); (try simp only [List.size_toArray])
    refine wpG_first (i := 19) (oi := _) (v := (.bool true)) [19] rfl (by kernel_rfl) (by kernel_rfl) (by kernel_rfl) (by kernel_rfl) (fun _ _ _ h => h) hI0 ?hy19 ?rs19
    case hy19 => exact Or.inl ⟨by rfl, by intro w' hb; go_simp⟩
    (try simp only [Act.put]); (try simp only [List.setIfInBounds_toArray]); (try simp only [List.set_cons_succ]); (try simp only [List.set_cons_zero]); (try simp only [List.size_toArray])
    refine wpG_first (i := 20) (oi := _) (v := (.bool true)) [20] rfl (by kernel_rfl) (by kernel_rfl) (by kernel_rfl) (by kernel_rfl) (fun _ _ _ h => h) hI0 ?hy20 ?rs20
    case hy20 => exact Or.inl ⟨by rfl, by intro w' hb; go_simp⟩
    (try simp only [Act.put]); (try simp only [List.setIfInBounds_toArray]); (try simp only [List.set_cons_succ]); (try simp only [List.set_cons_zero]); (try simp only [List.size_toArray])
    refine wpG_first (i := 21) (oi := _) (v := (.agg (hc h (.slice a' l.length cap')))) [21] rfl (by kernel_rfl) (by kernel_rfl) (by kernel_rfl) (by kernel_rfl) (fun _ _ _ h => h) hI0 ?hy21 ?rs21
    case hy21 => exact yields_row 30 _ rfl rfl _ rfl _ _ _ _ (fun w' hb => hkeep hb hgC.out) Try.underlying30 rfl info30
    (try simp only [Act.put]); (try simp only [List.setIfInBounds_toArray]); (try simp only [List.set_cons_succ]); (try simp only [List.set_cons_zero]); (try simp only [List.size_toArray])
    refine wpG_first (i := 22) (oi := _) (v := (.agg (hc h (.slice a l.length cap)))) [22] rfl (by kernel_rfl) (by kernel_rfl) (by kernel_rfl) (by kernel_rfl) (fun _ _ _ h => h) hI0 ?hy22 ?rs22
    case hy22 => exact yields_row 30 _ rfl rfl _ rfl _ _ _ _ (fun w' hb => hkeep hb hgA.out) Try.underlying30 rfl info30
    (try simp only [Act.put]); (try simp only [List.setIfInBounds_toArray]); (try simp only [List.set_cons_succ]); (try simp only [List.set_cons_zero]); (try simp only [List.size_toArray])
    refine wpG_one (i := 23) (by kernel_rfl) rfl ?_
    go_wp2_with (go_at_call 18; refine (sameHouse_eq h l a' a cap' cap _ (hpC.out.below hI0) (hpA.out.below hI0)).mono ?_; rintro e x8 ⟨rfl, hc8⟩)
    have hI8 := hI0.trans (hc8.mono hI0.size)
    refine ⟨hI8, ?_⟩
    replace hI0 := hI8
    (try simp only [Act.put]); (try simp only [List.setIfInBounds_toArray]); (try simp only [List.set_cons_succ]); (try simp only [List.set_cons_zero]); (try simp only [List.size_toArray])
    refine wpG_first (i := 24) (oi := _) (v := (.bool true)) [24] rfl (by kernel_rfl) (by kernel_rfl) (by kernel_rfl) (by kernel_rfl) (fun _ _ _ h => h) hI0 ?hy24 ?rs24
    case hy24 => exact Or.inl ⟨by rfl, by intro w' hb; go_simp⟩
    (try simp only [Act.put]); (try simp only [List.setIfInBounds_toArray]); (try simp only [List.set_cons_succ]); (try simp only [List.set_cons_zero]); (try simp only [List.size_toArray])
    refine wpG_first (i := 25) (oi := _) (v := (.bool true)) [25] rfl (by kernel_rfl) (by kernel_rfl) (by kernel_rfl) (by kernel_rfl) (fun _ _ _ h => h) hI0 ?hy25 ?rs25
    case hy25 => exact Or.inl ⟨by rfl, by intro w' hb; go_simp⟩
    (try simp only [Act.put]); (try simp only [List.setIfInBounds_toArray]); (try simp only [List.set_cons_succ]); (try simp only [List.set_cons_zero]); (try simp only [List.size_toArray])
    refine wpG_drop 26 rfl (by kernel_rfl) ?_
    simp only [List.drop_succ_cons, List.drop_zero]
    go_wp2_with fail
    go_ret
    exact ⟨rfl, hB.out.trans (hI0.mono hB.out.size)⟩
end Go.Proofs.Ytggfdkkhlokmlaa
