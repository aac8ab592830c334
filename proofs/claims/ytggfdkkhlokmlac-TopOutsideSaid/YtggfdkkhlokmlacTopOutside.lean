/- TopOutside: the walks. -/
import Derived.Test.YtggfdkkhlokmlacPlay
import Derived.Test.YtggfdkkhlokmlacCLed
import Derived.Test.YtggfdkkhlokmlacTopSame
namespace Go.Proofs.Ytggfdkkhlokmlac
open Go.RowKit
attribute [local go_sem] hc_pays hc_next hc_size rc_0 rc_1 rc_2 rc_size dc_0 dc_1 dc_2 dc_3 dc_4 dc_size
theorem sum_room {h : Hs} {l : List Pay} (g : Good3 h l) : ∀ i, 0 ≤ i → i < 4 → -1000000 ≤ h.has i ∧ h.has i ≤ 549780813888 := fun i i0 i1 => by
  have h1 := g.low i i0 i1
  have h2 := g.inv.hi i i0 i1
  have h3 := dsum_bound (toB i) l fun p hp => (g.inv.pays p hp).1
  have h4 := g.inv.len
  omega
theorem total_room {h : Hs} {l : List Pay} (g : Good3 h l) : -4000000 ≤ h.total ∧ h.total ≤ 2199123255552 := by
  have h0 := sum_room g 0 (by decide) (by decide)
  have h1 := sum_room g 1 (by decide) (by decide)
  have h2 := sum_room g 2 (by decide) (by decide)
  have h3 := sum_room g 3 (by decide) (by decide)
  simp only [Hs.total, sumTo]
  simp
  omega
set_option maxRecDepth 100000 in
set_option maxHeartbeats 4000000 in
theorem topOutside_look (p nb : Nat) (av : Nat → Prop) (B : Bk) (d : Deed) (v : Value) (w : World) (hk : BankAt w p av (doL B d).1) (hnb : av nb) (hpa : ¬ av p) (g0 : Good3 B.h B.l) (g1 : Good3 (doL B d).1.h (doL B d).1.l) (hn : w.heap[nb]? = some (.cells #[.int .i64 (B.h.total)] 3 (0, 0))) :
    Calls Try.prog 15 #[.pointer (some ⟨p, 0, none⟩), .agg (dc d), .agg (rc (doL B d).2.code (doL B d).2.n v), .pointer (some ⟨nb, 0, none⟩)] w fun e w' => e = .returned (.bool true) ∧ Only (fun b => b = nb) w w' ∧ w'.heap[nb]? = some (.cells #[.int .i64 ((doL B d).1.h.total)] 3 (0, 0)) := by
  have ht := do_total B d
  have hr0 := total_room g0
  have hr1 := total_room g1
  have hs1 := sum_room g1
  obtain ⟨Y, hY⟩ : ∃ Y, doL B d = Y := ⟨_, rfl⟩
  rw [hY] at hk g1 ht hr1 hs1 ⊢
  have cS := fun s w => sum_any Y.1.h s w fun i i0 i1 => by have := hs1 i i0 i1; omega
  have cH := fun w h => bankHouse_any p av Y.1 w h
  obtain ⟨T, hT⟩ : ∃ T, B.h.total = T := ⟨_, rfl⟩
  rw [hT] at hn ht hr0
  have hnl := hlt hn
  replace hY := Lib.hid hY
  replace hT := Lib.hid hT
  replace cS := Lib.hid cS
  replace cH := Lib.hid cH
  replace hk := Lib.hid hk
  replace ht := Lib.hid ht
  clear g0 g1 hs1
  go_enter Try.func15, Try.ntmps15
  go_upto_region 1 with fail
  generalize hW : World.alloc (World.alloc w _) _ = W0
  have hD : W0.heap[w.heap.size]? = some (.cells (dc d) 28 (0, 0)) := by rw [← hW]; exact heap_alloc2_old w _ _
  have hR : W0.heap[w.heap.size + 1]? = some (.cells (rc Y.2.code Y.2.n v) 32 (0, 0)) := by rw [← hW]; exact heap_alloc2_new w _ _
  have hB0 : Below w.heap.size w W0 := by rw [← hW]; exact ((Below.refl w.heap.size w).alloc (Nat.le_refl _) _).alloc (by simp) _
  clear hW
  have hk1 := hk.out.below hB0
  have hn1 := hkeep hB0 hn
  have hO1 : Only (fun b => b = nb) w W0 := only_new hB0
  clear hB0 hn hk
  have cD := cells_at hD
  have cR := cells_at hR
  by_cases e10 : d.kind = 10
  · have q10 : (d.kind == 10) = true := by rw [beq_iff_eq]; exact e10
    replace e10 := Lib.hid e10
    replace hk1 := Lib.hid hk1
    go_upto_region 3 with (first | go_skip | (go_at_call 12; refine (cH.out _ hk1.out).mono ?_; rintro e w5 ⟨⟨u, rfl, _⟩, hb5⟩) | (go_at_call 16; refine (cS.out _ _).mono ?_; rintro e w6 ⟨rfl, hb6⟩; have hn6 := hkeep hb6 (hkeep hb5 hn1); have c6 := cells_at hn6; have f6 := frozenAt hn6))
    have hB6 := bstep hb5 hb5.size hb6
    have hset := hsetSame (i := 0) hn6 (.int .i64 Y.1.h.total)
    clear c6 f6
    go_wp2_with fail
    go_ret
    exact ⟨rfl, (hO1.more hB6).trans (only_set nb 0 _ _), hset⟩
  by_cases e11 : d.kind = 11
  · have q10 : (d.kind == 10) = false := by rw [beq_eq_false_iff_ne]; exact e10
    have q11 : (d.kind == 11) = true := by rw [beq_iff_eq]; exact e11
    replace e10 := Lib.hid e10
    replace e11 := Lib.hid e11
    replace hk1 := Lib.hid hk1
    go_upto_region 3 with (first | go_skip | (go_at_call 12; refine (cH.out _ hk1.out).mono ?_; rintro e w5 ⟨⟨u, rfl, _⟩, hb5⟩) | (go_at_call 16; refine (cS.out _ _).mono ?_; rintro e w6 ⟨rfl, hb6⟩; have hn6 := hkeep hb6 (hkeep hb5 hn1); have c6 := cells_at hn6; have f6 := frozenAt hn6))
    have hB6 := bstep hb5 hb5.size hb6
    have hset := hsetSame (i := 0) hn6 (.int .i64 Y.1.h.total)
    clear c6 f6
    go_wp2_with fail
    go_ret
    exact ⟨rfl, (hO1.more hB6).trans (only_set nb 0 _ _), hset⟩
  by_cases e7 : Y.2.code = 7
  · have q10 : (d.kind == 10) = false := by rw [beq_eq_false_iff_ne]; exact e10
    have q11 : (d.kind == 11) = false := by rw [beq_eq_false_iff_ne]; exact e11
    have q7 : (Y.2.code == 7) = true := by rw [beq_iff_eq]; exact e7
    replace e10 := Lib.hid e10
    replace e11 := Lib.hid e11
    replace e7 := Lib.hid e7
    replace hk1 := Lib.hid hk1
    go_upto_region 3 with (first | go_skip | (go_at_call 12; refine (cH.out _ hk1.out).mono ?_; rintro e w5 ⟨⟨u, rfl, _⟩, hb5⟩) | (go_at_call 16; refine (cS.out _ _).mono ?_; rintro e w6 ⟨rfl, hb6⟩; have hn6 := hkeep hb6 (hkeep hb5 hn1); have c6 := cells_at hn6; have f6 := frozenAt hn6))
    have hB6 := bstep hb5 hb5.size hb6
    have hset := hsetSame (i := 0) hn6 (.int .i64 Y.1.h.total)
    clear c6 f6
    go_wp2_with fail
    go_ret
    exact ⟨rfl, (hO1.more hB6).trans (only_set nb 0 _ _), hset⟩
  have q10 : (d.kind == 10) = false := by rw [beq_eq_false_iff_ne]; exact e10
  have q11 : (d.kind == 11) = false := by rw [beq_eq_false_iff_ne]; exact e11
  have q7 : (Y.2.code == 7) = false := by rw [beq_eq_false_iff_ne]; exact e7
  have htot := ht.out e10 e11 e7
  clear ht e10 e11 e7
  by_cases e0 : Y.2.code = 0
  · have q0 : (Y.2.code == 0) = true := by rw [beq_iff_eq]; exact e0
    by_cases k6 : d.kind = 6
    · have p6 : (d.kind == 6) = true := by rw [beq_iff_eq]; exact k6
      have p7 : (d.kind == 7) = false := by rw [beq_eq_false_iff_ne]; omega
      have hsum : T + d.n = Y.1.h.total := by rw [htot, outside, if_pos ⟨e0, k6⟩]
      have hset := hsetSame (i := 0) hn1 (.int .i64 Y.1.h.total)
      have fN := frozenAt hn1
      have cN := cells_at hn1
      replace htot := Lib.hid htot
      replace hset := Lib.hid hset
      replace e0 := Lib.hid e0
      replace k6 := Lib.hid k6
      go_upto_region 6 with fail
      generalize hWt : World.setCell W0 _ _ = wt
      have hn2 : wt.heap[nb]? = some (.cells #[.int .i64 (Y.1.h.total)] 3 (0, 0)) := by rw [← hWt]; exact hset.out
      have hO2 : Only (fun b => b = nb) w wt := by rw [← hWt]; exact hO1.trans (only_set nb 0 _ W0)
      have hD2 : wt.heap[w.heap.size]? = some (.cells (dc d) 28 (0, 0)) := by rw [← hWt]; exact hsetOther hD (by omega) _
      have hR2 : wt.heap[w.heap.size + 1]? = some (.cells (rc Y.2.code Y.2.n v) 32 (0, 0)) := by rw [← hWt]; exact hsetOther hR (by omega) _
      have hk2 : BankAt wt p av Y.1 := by rw [← hWt]; exact hk1.only ((only_set nb 0 _ W0).mono fun b _ e => e ▸ hnb) hpa
      clear hWt hset fN cN cD cR hn1 hO1 hD hR hk1
      have cD := cells_at hD2
      have cR := cells_at hR2
      replace hk2 := Lib.hid hk2
      go_upto_region 8 with fail
      have hcI : ∀ w' : World, Below wt.heap.size wt w' → w'.cell? ⟨nb, 0, none⟩ = some (.int .i64 Y.1.h.total) := fun w' hb => (cells_at (hkeep hb hn2) 0)
      replace hcI := Lib.hid hcI
      have hI0 : Below wt.heap.size wt wt.drew := (Below.refl _ _).drew
      refine wpG_start (Below wt.heap.size wt) 4 (by kernel_rfl) ?_
      have hkd := hk2.out.below hI0
      generalize World.drew wt = wd at *
      refine wpG_put 48 (i := 0) (oi := _) (v := (.pointer (some ⟨p, 0, none⟩))) [2, 1, 0] rfl rfl (by kernel_rfl) (by kernel_rfl) (by kernel_rfl) (by kernel_rfl) (fun _ _ _ h => h) hI0 ?hy1 ?rs1
      case hy1 => exact Or.inl ⟨by rfl, by intro w' hb; go_simp⟩
      (try simp only [Act.put]); (try simp only [List.setIfInBounds_toArray]); (try simp only [List.set_cons_succ]); (try simp only [List.set_cons_zero]); (try simp only [List.size_toArray])
      refine wpG_put 51 (i := 3) (oi := _) (v := (.int .i64 Y.1.h.total)) [3] rfl rfl (by kernel_rfl) (by kernel_rfl) (by kernel_rfl) (by kernel_rfl) (fun _ _ _ h => h) hI0 ?hy2 ?rs2
      case hy2 => exact Or.inl ⟨by rfl, by intro w' hb; have c1 := hcI.out w' hb; go_simp⟩
      (try simp only [Act.put]); (try simp only [List.setIfInBounds_toArray]); (try simp only [List.set_cons_succ]); (try simp only [List.set_cons_zero]); (try simp only [List.size_toArray])
      refine wpG_one (i := 1) (by kernel_rfl) rfl ?_
      go_wp2_with (first | go_skip | (go_at_call 12; refine (cH.out _ hkd).mono ?_; rintro e w5 ⟨⟨u, rfl, _⟩, hb5⟩))
      have hI5 := hI0.trans (hb5.mono hI0.size)
      refine ⟨hI5, ?_⟩
      (try simp only [Act.put]); (try simp only [List.setIfInBounds_toArray]); (try simp only [List.set_cons_succ]); (try simp only [List.set_cons_zero]); (try simp only [List.size_toArray])
      refine wpG_one (i := 2) (by kernel_rfl) rfl ?_
      go_wp2_with (first | go_skip | (go_at_call 16; refine (cS.out _ _).mono ?_; rintro e w6 ⟨rfl, hb6⟩))
      have hI6 := hI5.trans (hb6.mono hI5.size)
      refine ⟨hI6, ?_⟩
      (try simp only [Act.put]); (try simp only [List.setIfInBounds_toArray]); (try simp only [List.set_cons_succ]); (try simp only [List.set_cons_zero]); (try simp only [List.size_toArray])
      refine wpG_drop 4 rfl (by kernel_rfl) ?_
      simp only [List.drop_succ_cons, List.drop_zero]
      go_wp2_with fail
      go_ret
      exact ⟨rfl, hO2.more hI6, hkeep hI6 hn2⟩
    · have p6 : (d.kind == 6) = false := by rw [beq_eq_false_iff_ne]; exact k6
      by_cases k7 : d.kind = 7
      · have p7 : (d.kind == 7) = true := by rw [beq_iff_eq]; exact k7
        have hsum : T - d.n = Y.1.h.total := by rw [htot, outside, if_neg (fun e => k6 e.2), if_pos ⟨e0, k7⟩]; omega
        have hset := hsetSame (i := 0) hn1 (.int .i64 Y.1.h.total)
        have fN := frozenAt hn1
        have cN := cells_at hn1
        replace htot := Lib.hid htot
        replace hset := Lib.hid hset
        replace e0 := Lib.hid e0
        replace k7 := Lib.hid k7
        replace k6 := Lib.hid k6
        go_upto_region 8 with fail
        generalize hWt : World.setCell W0 _ _ = wt
        have hn2 : wt.heap[nb]? = some (.cells #[.int .i64 (Y.1.h.total)] 3 (0, 0)) := by rw [← hWt]; exact hset.out
        have hO2 : Only (fun b => b = nb) w wt := by rw [← hWt]; exact hO1.trans (only_set nb 0 _ W0)
        have hD2 : wt.heap[w.heap.size]? = some (.cells (dc d) 28 (0, 0)) := by rw [← hWt]; exact hsetOther hD (by omega) _
        have hR2 : wt.heap[w.heap.size + 1]? = some (.cells (rc Y.2.code Y.2.n v) 32 (0, 0)) := by rw [← hWt]; exact hsetOther hR (by omega) _
        have hk2 : BankAt wt p av Y.1 := by rw [← hWt]; exact hk1.only ((only_set nb 0 _ W0).mono fun b _ e => e ▸ hnb) hpa
        clear hWt hset fN cN cD cR hn1 hO1 hD hR hk1
        have cD := cells_at hD2
        have cR := cells_at hR2
        replace hk2 := Lib.hid hk2
        go_upto_region 8 with fail
        have hcI : ∀ w' : World, Below wt.heap.size wt w' → w'.cell? ⟨nb, 0, none⟩ = some (.int .i64 Y.1.h.total) := fun w' hb => (cells_at (hkeep hb hn2) 0)
        replace hcI := Lib.hid hcI
        have hI0 : Below wt.heap.size wt wt.drew := (Below.refl _ _).drew
        refine wpG_start (Below wt.heap.size wt) 4 (by kernel_rfl) ?_
        have hkd := hk2.out.below hI0
        generalize World.drew wt = wd at *
        refine wpG_put 48 (i := 0) (oi := _) (v := (.pointer (some ⟨p, 0, none⟩))) [2, 1, 0] rfl rfl (by kernel_rfl) (by kernel_rfl) (by kernel_rfl) (by kernel_rfl) (fun _ _ _ h => h) hI0 ?hy3 ?rs3
        case hy3 => exact Or.inl ⟨by rfl, by intro w' hb; go_simp⟩
        (try simp only [Act.put]); (try simp only [List.setIfInBounds_toArray]); (try simp only [List.set_cons_succ]); (try simp only [List.set_cons_zero]); (try simp only [List.size_toArray])
        refine wpG_put 51 (i := 3) (oi := _) (v := (.int .i64 Y.1.h.total)) [3] rfl rfl (by kernel_rfl) (by kernel_rfl) (by kernel_rfl) (by kernel_rfl) (fun _ _ _ h => h) hI0 ?hy4 ?rs4
        case hy4 => exact Or.inl ⟨by rfl, by intro w' hb; have c1 := hcI.out w' hb; go_simp⟩
        (try simp only [Act.put]); (try simp only [List.setIfInBounds_toArray]); (try simp only [List.set_cons_succ]); (try simp only [List.set_cons_zero]); (try simp only [List.size_toArray])
        refine wpG_one (i := 1) (by kernel_rfl) rfl ?_
        go_wp2_with (first | go_skip | (go_at_call 12; refine (cH.out _ hkd).mono ?_; rintro e w5 ⟨⟨u, rfl, _⟩, hb5⟩))
        have hI5 := hI0.trans (hb5.mono hI0.size)
        refine ⟨hI5, ?_⟩
        (try simp only [Act.put]); (try simp only [List.setIfInBounds_toArray]); (try simp only [List.set_cons_succ]); (try simp only [List.set_cons_zero]); (try simp only [List.size_toArray])
        refine wpG_one (i := 2) (by kernel_rfl) rfl ?_
        go_wp2_with (first | go_skip | (go_at_call 16; refine (cS.out _ _).mono ?_; rintro e w6 ⟨rfl, hb6⟩))
        have hI6 := hI5.trans (hb6.mono hI5.size)
        refine ⟨hI6, ?_⟩
        (try simp only [Act.put]); (try simp only [List.setIfInBounds_toArray]); (try simp only [List.set_cons_succ]); (try simp only [List.set_cons_zero]); (try simp only [List.size_toArray])
        refine wpG_drop 4 rfl (by kernel_rfl) ?_
        simp only [List.drop_succ_cons, List.drop_zero]
        go_wp2_with fail
        go_ret
        exact ⟨rfl, hO2.more hI6, hkeep hI6 hn2⟩
      · have p7 : (d.kind == 7) = false := by rw [beq_eq_false_iff_ne]; exact k7
        have hsum : T = Y.1.h.total := by rw [htot, outside, if_neg (fun e => k6 e.2), if_neg (fun e => k7 e.2)]; omega
        rw [hsum] at hn1
        replace htot := Lib.hid htot
        replace hsum := Lib.hid hsum
        replace e0 := Lib.hid e0
        replace k6 := Lib.hid k6
        replace k7 := Lib.hid k7
        have hn2 := hn1
        have hO2 := hO1
        have hk2 := hk1
        obtain ⟨wt, rfl⟩ : ∃ wt : World, wt = W0 := ⟨_, rfl⟩
        clear hn1 hO1 hk1
        replace hk2 := Lib.hid hk2
        go_upto_region 8 with fail
        have hcI : ∀ w' : World, Below wt.heap.size wt w' → w'.cell? ⟨nb, 0, none⟩ = some (.int .i64 Y.1.h.total) := fun w' hb => (cells_at (hkeep hb hn2) 0)
        replace hcI := Lib.hid hcI
        have hI0 : Below wt.heap.size wt wt.drew := (Below.refl _ _).drew
        refine wpG_start (Below wt.heap.size wt) 4 (by kernel_rfl) ?_
        have hkd := hk2.out.below hI0
        generalize World.drew wt = wd at *
        refine wpG_put 48 (i := 0) (oi := _) (v := (.pointer (some ⟨p, 0, none⟩))) [2, 1, 0] rfl rfl (by kernel_rfl) (by kernel_rfl) (by kernel_rfl) (by kernel_rfl) (fun _ _ _ h => h) hI0 ?hy5 ?rs5
        case hy5 => exact Or.inl ⟨by rfl, by intro w' hb; go_simp⟩
        (try simp only [Act.put]); (try simp only [List.setIfInBounds_toArray]); (try simp only [List.set_cons_succ]); (try simp only [List.set_cons_zero]); (try simp only [List.size_toArray])
        refine wpG_put 51 (i := 3) (oi := _) (v := (.int .i64 Y.1.h.total)) [3] rfl rfl (by kernel_rfl) (by kernel_rfl) (by kernel_rfl) (by kernel_rfl) (fun _ _ _ h => h) hI0 ?hy6 ?rs6
        case hy6 => exact Or.inl ⟨by rfl, by intro w' hb; have c1 := hcI.out w' hb; go_simp⟩
        (try simp only [Act.put]); (try simp only [List.setIfInBounds_toArray]); (try simp only [List.set_cons_succ]); (try simp only [List.set_cons_zero]); (try simp only [List.size_toArray])
        refine wpG_one (i := 1) (by kernel_rfl) rfl ?_
        go_wp2_with (first | go_skip | (go_at_call 12; refine (cH.out _ hkd).mono ?_; rintro e w5 ⟨⟨u, rfl, _⟩, hb5⟩))
        have hI5 := hI0.trans (hb5.mono hI0.size)
        refine ⟨hI5, ?_⟩
        (try simp only [Act.put]); (try simp only [List.setIfInBounds_toArray]); (try simp only [List.set_cons_succ]); (try simp only [List.set_cons_zero]); (try simp only [List.size_toArray])
        refine wpG_one (i := 2) (by kernel_rfl) rfl ?_
        go_wp2_with (first | go_skip | (go_at_call 16; refine (cS.out _ _).mono ?_; rintro e w6 ⟨rfl, hb6⟩))
        have hI6 := hI5.trans (hb6.mono hI5.size)
        refine ⟨hI6, ?_⟩
        (try simp only [Act.put]); (try simp only [List.setIfInBounds_toArray]); (try simp only [List.set_cons_succ]); (try simp only [List.set_cons_zero]); (try simp only [List.size_toArray])
        refine wpG_drop 4 rfl (by kernel_rfl) ?_
        simp only [List.drop_succ_cons, List.drop_zero]
        go_wp2_with fail
        go_ret
        exact ⟨rfl, hO2.more hI6, hkeep hI6 hn2⟩
  · have q0 : (Y.2.code == 0) = false := by rw [beq_eq_false_iff_ne]; exact e0
    have hsum : T = Y.1.h.total := by rw [htot, outside, if_neg (fun e => e0 e.1), if_neg (fun e => e0 e.1)]; omega
    rw [hsum] at hn1
    replace htot := Lib.hid htot
    replace hsum := Lib.hid hsum
    replace e0 := Lib.hid e0
    have hn2 := hn1
    have hO2 := hO1
    have hk2 := hk1
    obtain ⟨wt, rfl⟩ : ∃ wt : World, wt = W0 := ⟨_, rfl⟩
    clear hn1 hO1 hk1
    replace hk2 := Lib.hid hk2
    go_upto_region 8 with fail
    have hcI : ∀ w' : World, Below wt.heap.size wt w' → w'.cell? ⟨nb, 0, none⟩ = some (.int .i64 Y.1.h.total) := fun w' hb => (cells_at (hkeep hb hn2) 0)
    replace hcI := Lib.hid hcI
    have hI0 : Below wt.heap.size wt wt.drew := (Below.refl _ _).drew
    refine wpG_start (Below wt.heap.size wt) 4 (by kernel_rfl) ?_
    have hkd := hk2.out.below hI0
    generalize World.drew wt = wd at *
    refine wpG_put 48 (i := 0) (oi := _) (v := (.pointer (some ⟨p, 0, none⟩))) [2, 1, 0] rfl rfl (by kernel_rfl) (by kernel_rfl) (by kernel_rfl) (by kernel_rfl) (fun _ _ _ h => h) hI0 ?hy7 ?rs7
    case hy7 => exact Or.inl ⟨by rfl, by intro w' hb; go_simp⟩
    (try simp only [Act.put]); (try simp only [List.setIfInBounds_toArray]); (try simp only [List.set_cons_succ]); (try simp only [List.set_cons_zero]); (try simp only [List.size_toArray])
    refine wpG_put 51 (i := 3) (oi := _) (v := (.int .i64 Y.1.h.total)) [3] rfl rfl (by kernel_rfl) (by kernel_rfl) (by kernel_rfl) (by kernel_rfl) (fun _ _ _ h => h) hI0 ?hy8 ?rs8
    case hy8 => exact Or.inl ⟨by rfl, by intro w' hb; have c1 := hcI.out w' hb; go_simp⟩
    (try simp only [Act.put]); (try simp only [List.setIfInBounds_toArray]); (try simp only [List.set_cons_succ]); (try simp only [List.set_cons_zero]); (try simp only [List.size_toArray])
    refine wpG_one (i := 1) (by kernel_rfl) rfl ?_
    go_wp2_with (first | go_skip | (go_at_call 12; refine (cH.out _ hkd).mono ?_; rintro e w5 ⟨⟨u, rfl, _⟩, hb5⟩))
    have hI5 := hI0.trans (hb5.mono hI0.size)
    refine ⟨hI5, ?_⟩
    (try simp only [Act.put]); (try simp only [List.setIfInBounds_toArray]); (try simp only [List.set_cons_succ]); (try simp only [List.set_cons_zero]); (try simp only [List.size_toArray])
    refine wpG_one (i := 2) (by kernel_rfl) rfl ?_
    go_wp2_with (first | go_skip | (go_at_call 16; refine (cS.out _ _).mono ?_; rintro e w6 ⟨rfl, hb6⟩))
    have hI6 := hI5.trans (hb6.mono hI5.size)
    refine ⟨hI6, ?_⟩
    (try simp only [Act.put]); (try simp only [List.setIfInBounds_toArray]); (try simp only [List.set_cons_succ]); (try simp only [List.set_cons_zero]); (try simp only [List.size_toArray])
    refine wpG_drop 4 rfl (by kernel_rfl) ?_
    simp only [List.drop_succ_cons, List.drop_zero]
    go_wp2_with fail
    go_ret
    exact ⟨rfl, hO2.more hI6, hkeep hI6 hn2⟩
/-- n is what all have together. -/
def OutJ (nb : Nat) (l : List Deed) (i : Nat) (av : Nat → Prop) (w : World) : Prop := av nb ∧ w.heap[nb]? = some (.cells #[.int .i64 ((Bs l i).h.total)] 3 (0, 0))
theorem topOutside_looks (base nb : Nat) (l : List Deed) : Looks 15 #[.pointer (some ⟨nb, 0, none⟩)] base (OutJ nb l) l where
  enter := fun args w => by kernel_rfl
  keep := fun i av av' w w' hJ hb ha _ => ⟨ha _ hJ.1, (hb nb (.inr hJ.1)).trans hJ.2⟩
  look := fun i d p av v w1 _ hpk hJ hk _ hpa _ _ _ => by
    have h := topOutside_look p nb av (Bs l i) d v w1 (by rw [do_pair hpk]; exact hk) hJ.1 hpa (bs_good l i) (by rw [do_pair hpk]; exact bs_good l (i + 1)) hJ.2
    rw [do_pair hpk] at h
    exact h.mono fun e w2 ⟨h1, h2, h3⟩ => ⟨h1, h2.mono fun b _ e => e ▸ hJ.1, .inl hJ.1, h3⟩
set_option maxRecDepth 100000 in
theorem topOutside_any (l : List Deed) (a : Option Addr) (cap : Nat) (w : World) (hl : ActsAt w a cap l) :
    Calls Try.prog 5 #[.slice a l.length cap] w fun e w' => e = .returned (.bool true) ∧ Below w.heap.size w w' := by
  have hlb := lt_of_acts hl
  replace hl := Lib.hid hl
  go_enter Try.func5, Try.ntmps5
  go_upto_region 2 with fail
  generalize hW : World.alloc w _ = W0
  have hn : W0.heap[w.heap.size]? = some (.cells #[.int .i64 ((Bs l 0).h.total)] 3 (0, 0)) := by rw [← hW]; exact hnew w _
  have hB0 : Below w.heap.size w W0 := by rw [← hW]; exact (Below.refl _ _).alloc (Nat.le_refl _) _
  have cP := play_any 15 #[.pointer (some ⟨w.heap.size, 0, none⟩)] w.heap.size (OutJ w.heap.size l) l a cap W0 (hl.out.below hB0) hlb hB0.size (topOutside_looks _ _ l) ⟨⟨Nat.le_refl _, hlt hn⟩, hn⟩
  clear hW hlb
  replace cP := Lib.hid cP
  go_wp2_with (first | go_skip | (go_at_call 8; refine cP.out.mono ?_; rintro e w1 ⟨⟨p, av, rfl, _⟩, hb1⟩))
  go_ret
  exact ⟨rfl, hB0.trans hb1⟩
end Go.Proofs.Ytggfdkkhlokmlac

