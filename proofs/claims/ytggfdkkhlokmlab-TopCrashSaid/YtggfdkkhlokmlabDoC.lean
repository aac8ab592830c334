/- bank.Do: behind Next. -/
import Derived.Test.YtggfdkkhlokmlabDoB
set_option linter.unusedSimpArgs false
namespace Go.Proofs.Ytggfdkkhlokmlab
open Go.RowKit
attribute [local go_sem] hc_pays hc_next hc_size rc_0 rc_1 rc_2 rc_size dc_0 dc_1 dc_2 dc_3 dc_4 dc_size bc_42 bc_43 bc_44 bc_45
theorem do_work_eq {h : Hs} {l : List Pay} {t : List UInt8} {f : Int} {n : Nat} {d : Deed} {N : Nx} (hN : nextL h l d = N) (hn : n < 200) (h10 : d.kind ≠ 10) (h11 : d.kind ≠ 11) : doL ⟨h, l, t, false, f, n⟩ d =
  if N.code ≠ 0 then (⟨h, l, t, false, f, n + 1⟩, .no N.code) else if noted d = false then (⟨h, l, t, false, f, n + 1⟩, .no 3) else if 4000 < t.length + (frame d).length then (⟨h, l, t, false, f, n + 1⟩, .no 5)
  else if 0 ≤ f then (⟨h, l, t ++ (frame d).take (min f.toNat (frame d).length), true, -1, n + 1⟩, .no 7) else (⟨N.h, N.l, t ++ frame d, false, f, n + 1⟩, ⟨0, N.n, N.done⟩) := by
 subst hN
 unfold doL
 rw [if_neg (by simp only; omega), if_neg h11, if_neg (by simp), if_neg h10]
 rfl
set_option maxRecDepth 100000 in
set_option maxHeartbeats 4000000 in
theorem do_work (p : Nat) (av : Nat → Prop) (h : Hs) (l : List Pay) (t : List UInt8) (f : Int) (n : Nat) (k a b c x : Int) (w : World) (hB : BankAt w p av ⟨h, l, t, false, f, n⟩) (hn : n < 200) (h10 : k ≠ 10) (h11 : k ≠ 11) (ht : t.length ≤ 4000) (hf0 : -1 ≤ f) (hf1 : f ≤ 4000) (hav : ∀ x, av x → x < w.heap.size) :
  Calls Try.prog 26 #[.pointer (some ⟨p, 0, none⟩), .agg (dc ⟨k, a, b, c, x⟩)] w (DoPost p av (doL ⟨h, l, t, false, f, n⟩ ⟨k, a, b, c, x⟩) w) := by
 obtain ⟨a0, cap0, hg, hp, hap⟩ := hB.box
 have hgl := hlt hg
 replace hp := Lib.hid hp
 replace hap := Lib.hid hap
 have q10 : (k == 10) = false := by rw [beq_eq_false_iff_ne]; exact h10
 have q11 : (k == 11) = false := by rw [beq_eq_false_iff_ne]; exact h11
 obtain ⟨N, hN⟩ : ∃ N, nextL h l ⟨k, a, b, c, x⟩ = N := ⟨_, rfl⟩
 have eX := do_work_eq (t := t) (f := f) hN hn h10 h11
 have hrf := fun hc => next_refused (h := h) (l := l) (a := ⟨k, a, b, c, x⟩) hc
 have cN0 := fun cap0 a0 w hp => nexts_any h l a0 cap0 ⟨k, a, b, c, x⟩ w hp
 rw [hN] at hrf
 simp only [hN] at cN0
 replace hN := Lib.hid hN
 replace eX := Lib.hid eX
 replace hrf := Lib.hid hrf
 replace cN0 := Lib.hid cN0
 have hpl : 0 < l.length → ∀ b off s, a0 = some ⟨b, off, s⟩ → b < w.heap.size := fun hl b off s e => by
  obtain ⟨b', off', e', hbl, _⟩ := hp.out.row hl
  rw [e] at e'; cases e'; exact hbl
 replace hpl := Lib.hid hpl
 clear h10 h11
 go_enter Try.func26, Try.ntmps26
 go_upto_region 1 with fail
 generalize hW : World.alloc (World.alloc w _) _ = W0
 have hD : W0.heap[w.heap.size]? = some (.cells (dc ⟨k, a, b, c, x⟩) 40 (0, 0)) := by rw [← hW]; exact heap_alloc2_old w _ _
 have hR : W0.heap[w.heap.size + 1]? = some (.cells (rc 0 0 (.slice none 0 0)) 44 (0, 0)) := by rw [← hW]; exact heap_alloc2_new w _ _
 have hP : W0.heap[p]? = some (.cells (bc h (.slice a0 l.length cap0) t false f n) 83 (0, 0)) := by rw [← hW]; exact hold (hold hg _) _
 have hB0 : Below w.heap.size w W0 := by rw [← hW]; exact ((Below.refl w.heap.size w).alloc (Nat.le_refl _) _).alloc (by simp) _
 clear hW hg hB
 have cP := cells_at hP
 have fP := frozenAt hP
 have hni : (n : Int) < 200 := by omega
 have en : decide ((200 : Int) ≤ (n : Int)) = false := decide_eq_false (by omega)
 have hset := hsetSame (i := 45) hP (.int .i64 ((n : Int) + 1))
 rw [bc_setActs] at hset
 replace hset := Lib.hid hset
 go_upto_region 7 with fail
 generalize hW1 : World.setCell W0 _ _ = W1
 have hP1 : W1.heap[p]? = some (.cells (bc h (.slice a0 l.length cap0) t false f ((n + 1 : Nat) : Int)) 83 (0, 0)) := by rw [← hW1]; exact hset.out
 have hD1 : W1.heap[w.heap.size]? = some (.cells (dc ⟨k, a, b, c, x⟩) 40 (0, 0)) := by rw [← hW1]; exact hsetOther hD (by omega) _
 have hR1 : W1.heap[w.heap.size + 1]? = some (.cells (rc 0 0 (.slice none 0 0)) 44 (0, 0)) := by rw [← hW1]; exact hsetOther hR (by omega) _
 have hO1 : Only (fun b => b = p) w W1 := by rw [← hW1]; exact (only_new hB0).trans (only_set p 45 _ W0)
 clear hW1 hset fP cP hP hD hR hB0 en
 have cP := cells_at hP1
 have fP := frozenAt hP1
 have cD := cells_at hD1
 have hs1 := hlt hR1
 have hp1 : PaysAt W1 a0 cap0 l := hO1.pays hp.out fun hl b off s e => (hap.out hl b off s e).1
 have ha0 : 0 < N.l.length → N.code ≠ 0 → ∀ b off s, a0 = some ⟨b, off, s⟩ → b < W1.heap.size := fun hl hc b off s e => by
  have h1 := (hrf.out hc).2.1
  have := hpl.out (by rw [← h1]; exact hl) b off s e
  omega
 have cN : ∀ wx : World, Below W1.heap.size W1 wx → Calls Try.prog 34 #[.agg (hc h (.slice a0 l.length cap0)), .agg (dc ⟨k, a, b, c, x⟩)] wx (NextsPost a0 N wx) := fun wx hb => cN0.out cap0 a0 wx (hp1.below hb)
 replace cN := Lib.hid cN
 replace ha0 := Lib.hid ha0
 go_upto_region 20 with fail
 clear cP fP cD cN0 hp1
 generalize W1 = W0 at *
 go_cut [8, 9] (fun s8 s9 wx => ∃ gx gy a1 cap1 v, s8 = .pointer (some ⟨gx, 0, none⟩) ∧ s9 = .pointer (some ⟨gy, 0, none⟩) ∧ Two (fun _ => N.code ≠ 0) W0 wx gx gy N a1 cap1 v)
 case first =>
  refine wpG_start (Below W0.heap.size W0) 12 (by kernel_rfl) ?_
  have hPl : Pool W0 W0.drew [] := Pool.start W0
  refine wpG_put 96 (i := 0) (oi := _) (v := (.pointer (some ⟨p, 0, none⟩))) [0] rfl rfl (by kernel_rfl) (by kernel_rfl) (by kernel_rfl) (by kernel_rfl) (fun _ _ _ h => h) hPl.low ?hy1 ?rs1
  case hy1 => exact Or.inl ⟨by rfl, by intro w' hb; go_simp⟩
  (try simp only [Act.put, List.setIfInBounds_toArray, List.set_cons_succ, List.set_cons_zero])
  refine wpG_put 97 (i := 1) (oi := _) (v := (.pointer (some ⟨p, 0, none⟩))) [1] rfl rfl (by kernel_rfl) (by kernel_rfl) (by kernel_rfl) (by kernel_rfl) (fun _ _ _ h => h) hPl.low ?hy2 ?rs2
  case hy2 => exact Or.inl ⟨by rfl, by intro w' hb; go_simp⟩
  (try simp only [Act.put, List.setIfInBounds_toArray, List.set_cons_succ, List.set_cons_zero])
  refine wpG_put 98 (i := 2) (oi := _) (v := (.pointer (some ⟨p, 0, none⟩))) [2] rfl rfl (by kernel_rfl) (by kernel_rfl) (by kernel_rfl) (by kernel_rfl) (fun _ _ _ h => h) hPl.low ?hy3 ?rs3
  case hy3 => exact Or.inl ⟨by rfl, by intro w' hb; go_simp⟩
  (try simp only [Act.put, List.setIfInBounds_toArray, List.set_cons_succ, List.set_cons_zero])
  refine wpG_put 99 (i := 3) (oi := _) (v := (.agg (hc h (.slice a0 l.length cap0)))) [3] rfl rfl (by kernel_rfl) (by kernel_rfl) (by kernel_rfl) (by kernel_rfl) (fun _ _ _ h => h) hPl.low ?hy4 ?rs4
  case hy4 => exact yields_cells 29 _ rfl rfl p 0 rfl _ _ (fun w' hb j v hv => (cells_at (hkeep hb hP1) _).trans (bc_h _ _ _ _ _ _ j v hv)) Try.underlying29 rfl info30
  (try simp only [Act.put, List.setIfInBounds_toArray, List.set_cons_succ, List.set_cons_zero])
  refine wpG_put 100 (i := 4) (oi := _) (v := (.agg (dc ⟨k, a, b, c, x⟩))) [4] rfl rfl (by kernel_rfl) (by kernel_rfl) (by kernel_rfl) (by kernel_rfl) (fun _ _ _ h => h) hPl.low ?hy5 ?rs5
  case hy5 => exact yields_row 40 _ rfl rfl _ rfl _ _ _ _ (fun w' hb => hkeep hb hD1) Try.underlying40 rfl info44
  (try simp only [Act.put, List.setIfInBounds_toArray, List.set_cons_succ, List.set_cons_zero])
  generalize World.drew W0 = wd at *
  refine wpG_three (i := 5) (j := 9) (k := 10) (by kernel_rfl) rfl rfl rfl ?_ ?_ ?_
  ·go_wp2_with (first | go_skip | (go_at_call 34; refine (cN.out wd hPl.low).mono ?_; rintro e w10 ⟨⟨a1, cap1, v, rfl, hq1, ho1, hs1'⟩, hb1⟩))
   have hpr := NextsPost.res hPl ha0.out hq1 ho1 hs1' hb1
   replace hPl := hpr.1
   have hRs := hpr.2
   have hv1 : v.oneCell' = true := ho1.one
   clear hpr hq1 ho1 hs1' hb1
   refine ⟨hPl.low, ?_⟩
   (try simp only [Act.put, List.setIfInBounds_toArray, List.set_cons_succ, List.set_cons_zero])
   refine wpG_put 95 (i := 6) (oi := _) (v := (.tuple #[.agg (hc N.h (.slice a1 N.l.length cap1)), .agg (rc N.code N.n v)])) [6] rfl rfl (by kernel_rfl) (by kernel_rfl) (by kernel_rfl) (by kernel_rfl) (fun _ _ _ h => h) hPl.low ?hy6 ?rs6
   case hy6 => exact Or.inl ⟨by rfl, by intro w' hb; go_simp⟩
   (try simp only [Act.put, List.setIfInBounds_toArray, List.set_cons_succ, List.set_cons_zero])
   refine wpG_put 102 (i := 7) (oi := _) (v := (.agg (hc N.h (.slice a1 N.l.length cap1)))) [7] rfl rfl (by kernel_rfl) (by kernel_rfl) (by kernel_rfl) (by kernel_rfl) (fun _ _ _ h => h) hPl.low ?hy7 ?rs7
   case hy7 => exact Or.inl ⟨by rfl, by intro w' hb; go_simp⟩
   (try simp only [Act.put, List.setIfInBounds_toArray, List.set_cons_succ, List.set_cons_zero])
   refine wpG_put 103 (i := 8) (oi := _) (v := (.agg (rc N.code N.n v))) [8] rfl rfl (by kernel_rfl) (by kernel_rfl) (by kernel_rfl) (by kernel_rfl) (fun _ _ _ h => h) hPl.low ?hy8 ?rs8
   case hy8 => exact Or.inl ⟨by rfl, by intro w' hb; go_simp⟩
   (try simp only [Act.put, List.setIfInBounds_toArray, List.set_cons_succ, List.set_cons_zero])
   refine wpG_two (i := 9) (j := 10) (by kernel_rfl) rfl rfl ?_ ?_
   ·go_wp2_with (first | go_skip)
    generalize hY : World.alloc w10 _ = w11
    replace hPl : Pool W0 w11 [(w10.heap.size, .cells (hc Hs.zero (.slice none 0 0)) 29 (0, 0))] := by rw [← hY]; exact hPl.alloc (.cells (hc Hs.zero (.slice none 0 0)) 29)
    replace hRs : Res (fun _ => N.code ≠ 0) W0 w11 [(w10.heap.size, .cells (hc Hs.zero (.slice none 0 0)) 29 (0, 0))] (N) a1 cap1 v := by rw [← hY]; exact hRs.alloc (.cells (hc Hs.zero (.slice none 0 0)) 29)
    clear hY
    refine ⟨hPl.low, ?_⟩
    (try simp only [Act.put, List.setIfInBounds_toArray, List.set_cons_succ, List.set_cons_zero])
    refine wpG_one (i := 10) (by kernel_rfl) rfl ?_
    go_wp2_with (first | go_skip)
    generalize hY : World.alloc w11 _ = w12
    replace hPl : Pool W0 w12 [(w11.heap.size, .cells (rc 0 0 (.slice none 0 0)) 44 (0, 0)), (w10.heap.size, .cells (hc Hs.zero (.slice none 0 0)) 29 (0, 0))] := by rw [← hY]; exact hPl.alloc (.cells (rc 0 0 (.slice none 0 0)) 44)
    replace hRs : Res (fun _ => N.code ≠ 0) W0 w12 [(w11.heap.size, .cells (rc 0 0 (.slice none 0 0)) 44 (0, 0)), (w10.heap.size, .cells (hc Hs.zero (.slice none 0 0)) 29 (0, 0))] (N) a1 cap1 v := by rw [← hY]; exact hRs.alloc (.cells (rc 0 0 (.slice none 0 0)) 44)
    clear hY
    refine ⟨hPl.low, ?_⟩
    (try simp only [Act.put, List.setIfInBounds_toArray, List.set_cons_succ, List.set_cons_zero])
    replace hPl := hPl.swap
    replace hRs := hRs.swap
    have hx := (hPl.box (w10.heap.size, .cells (hc Hs.zero (.slice none 0 0)) 29 (0, 0)) (by simp)).2
    have hy := (hPl.box (w11.heap.size, .cells (rc 0 0 (.slice none 0 0)) 44 (0, 0)) (by simp)).2
    have hxy : w10.heap.size ≠ w11.heap.size := by have := hPl.nodup; simp only [List.map_cons, List.map_nil, List.nodup_cons, List.mem_singleton, List.not_mem_nil, not_false_eq_true, List.nodup_nil, and_true] at this; exact this
    refine wpG_one (i := 11) (by kernel_rfl) rfl ?_
    go_wp2_with (first | go_skip | (refine st_row 29 _ _ rfl rfl _ rfl _ rfl _ _ hx info30 rfl (hc_one _ _ rfl) ?_; intro wa hra hgra hsza))
    refine ⟨(({ hPl with box := by simp, nodup := by simp } : Pool W0 w12 []).only (by exact only_grown hgra) (fun b e => by cases e; exact (hPl.box (w10.heap.size, .cells (hc Hs.zero (.slice none 0 0)) 29 (0, 0)) (by simp)).1) (by simp)).low, ?_⟩
    (try simp only [Act.put, List.setIfInBounds_toArray, List.set_cons_succ, List.set_cons_zero])
    refine wpG_drop 12 rfl (by kernel_rfl) ?_
    simp only [List.drop_succ_cons, List.drop_zero]
    go_wp2_with (first | go_skip | (refine st_row 44 _ _ rfl rfl _ rfl (rc (N).code (N).n v) rfl _ _ ((hgra.block _ (hlt hy) (by simpa using Ne.symm hxy)).trans hy) infoRp rfl (rc_one _ _ _ hv1) ?_; intro wb hrb hgrb hszb))
    go_meet
    case rel => exact ⟨w10.heap.size, w11.heap.size, a1, cap1, v, rfl, rfl, two_of hPl hRs hgra hra hgrb hrb⟩
   ·go_wp2_with (first | go_skip)
    generalize hY : World.alloc w10 _ = w13
    replace hPl : Pool W0 w13 [(w10.heap.size, .cells (rc 0 0 (.slice none 0 0)) 44 (0, 0))] := by rw [← hY]; exact hPl.alloc (.cells (rc 0 0 (.slice none 0 0)) 44)
    replace hRs : Res (fun _ => N.code ≠ 0) W0 w13 [(w10.heap.size, .cells (rc 0 0 (.slice none 0 0)) 44 (0, 0))] (N) a1 cap1 v := by rw [← hY]; exact hRs.alloc (.cells (rc 0 0 (.slice none 0 0)) 44)
    clear hY
    refine ⟨hPl.low, ?_⟩
    (try simp only [Act.put, List.setIfInBounds_toArray, List.set_cons_succ, List.set_cons_zero])
    refine wpG_one (i := 9) (by kernel_rfl) rfl ?_
    go_wp2_with (first | go_skip)
    generalize hY : World.alloc w13 _ = w14
    replace hPl : Pool W0 w14 [(w13.heap.size, .cells (hc Hs.zero (.slice none 0 0)) 29 (0, 0)), (w10.heap.size, .cells (rc 0 0 (.slice none 0 0)) 44 (0, 0))] := by rw [← hY]; exact hPl.alloc (.cells (hc Hs.zero (.slice none 0 0)) 29)
    replace hRs : Res (fun _ => N.code ≠ 0) W0 w14 [(w13.heap.size, .cells (hc Hs.zero (.slice none 0 0)) 29 (0, 0)), (w10.heap.size, .cells (rc 0 0 (.slice none 0 0)) 44 (0, 0))] (N) a1 cap1 v := by rw [← hY]; exact hRs.alloc (.cells (hc Hs.zero (.slice none 0 0)) 29)
    clear hY
    refine ⟨hPl.low, ?_⟩
    (try simp only [Act.put, List.setIfInBounds_toArray, List.set_cons_succ, List.set_cons_zero])
    have hx := (hPl.box (w13.heap.size, .cells (hc Hs.zero (.slice none 0 0)) 29 (0, 0)) (by simp)).2
    have hy := (hPl.box (w10.heap.size, .cells (rc 0 0 (.slice none 0 0)) 44 (0, 0)) (by simp)).2
    have hxy : w13.heap.size ≠ w10.heap.size := by have := hPl.nodup; simp only [List.map_cons, List.map_nil, List.nodup_cons, List.mem_singleton, List.not_mem_nil, not_false_eq_true, List.nodup_nil, and_true] at this; exact this
    refine wpG_one (i := 11) (by kernel_rfl) rfl ?_
    go_wp2_with (first | go_skip | (refine st_row 29 _ _ rfl rfl _ rfl _ rfl _ _ hx info30 rfl (hc_one _ _ rfl) ?_; intro wa hra hgra hsza))
    refine ⟨(({ hPl with box := by simp, nodup := by simp } : Pool W0 w14 []).only (by exact only_grown hgra) (fun b e => by cases e; exact (hPl.box (w13.heap.size, .cells (hc Hs.zero (.slice none 0 0)) 29 (0, 0)) (by simp)).1) (by simp)).low, ?_⟩
    (try simp only [Act.put, List.setIfInBounds_toArray, List.set_cons_succ, List.set_cons_zero])
    refine wpG_drop 12 rfl (by kernel_rfl) ?_
    simp only [List.drop_succ_cons, List.drop_zero]
    go_wp2_with (first | go_skip | (refine st_row 44 _ _ rfl rfl _ rfl (rc (N).code (N).n v) rfl _ _ ((hgra.block _ (hlt hy) (by simpa using Ne.symm hxy)).trans hy) infoRp rfl (rc_one _ _ _ hv1) ?_; intro wb hrb hgrb hszb))
    go_meet
    case rel => exact ⟨w13.heap.size, w10.heap.size, a1, cap1, v, rfl, rfl, two_of hPl hRs hgra hra hgrb hrb⟩
  ·go_wp2_with (first | go_skip)
   generalize hY : World.alloc wd _ = w15
   replace hPl : Pool W0 w15 [(wd.heap.size, .cells (hc Hs.zero (.slice none 0 0)) 29 (0, 0))] := by rw [← hY]; exact hPl.alloc (.cells (hc Hs.zero (.slice none 0 0)) 29)
   clear hY
   refine ⟨hPl.low, ?_⟩
   (try simp only [Act.put, List.setIfInBounds_toArray, List.set_cons_succ, List.set_cons_zero])
   refine wpG_two (i := 5) (j := 10) (by kernel_rfl) rfl rfl ?_ ?_
   ·go_wp2_with (first | go_skip | (go_at_call 34; refine (cN.out w15 hPl.low).mono ?_; rintro e w16 ⟨⟨a1, cap1, v, rfl, hq1, ho1, hs1'⟩, hb1⟩))
    have hpr := NextsPost.res hPl ha0.out hq1 ho1 hs1' hb1
    replace hPl := hpr.1
    have hRs := hpr.2
    have hv1 : v.oneCell' = true := ho1.one
    clear hpr hq1 ho1 hs1' hb1
    refine ⟨hPl.low, ?_⟩
    (try simp only [Act.put, List.setIfInBounds_toArray, List.set_cons_succ, List.set_cons_zero])
    refine wpG_put 95 (i := 6) (oi := _) (v := (.tuple #[.agg (hc N.h (.slice a1 N.l.length cap1)), .agg (rc N.code N.n v)])) [6] rfl rfl (by kernel_rfl) (by kernel_rfl) (by kernel_rfl) (by kernel_rfl) (fun _ _ _ h => h) hPl.low ?hy9 ?rs9
    case hy9 => exact Or.inl ⟨by rfl, by intro w' hb; go_simp⟩
    (try simp only [Act.put, List.setIfInBounds_toArray, List.set_cons_succ, List.set_cons_zero])
    refine wpG_put 102 (i := 7) (oi := _) (v := (.agg (hc N.h (.slice a1 N.l.length cap1)))) [7] rfl rfl (by kernel_rfl) (by kernel_rfl) (by kernel_rfl) (by kernel_rfl) (fun _ _ _ h => h) hPl.low ?hy10 ?rs10
    case hy10 => exact Or.inl ⟨by rfl, by intro w' hb; go_simp⟩
    (try simp only [Act.put, List.setIfInBounds_toArray, List.set_cons_succ, List.set_cons_zero])
    refine wpG_put 103 (i := 8) (oi := _) (v := (.agg (rc N.code N.n v))) [8] rfl rfl (by kernel_rfl) (by kernel_rfl) (by kernel_rfl) (by kernel_rfl) (fun _ _ _ h => h) hPl.low ?hy11 ?rs11
    case hy11 => exact Or.inl ⟨by rfl, by intro w' hb; go_simp⟩
    (try simp only [Act.put, List.setIfInBounds_toArray, List.set_cons_succ, List.set_cons_zero])
    refine wpG_one (i := 10) (by kernel_rfl) rfl ?_
    go_wp2_with (first | go_skip)
    generalize hY : World.alloc w16 _ = w17
    replace hPl : Pool W0 w17 [(w16.heap.size, .cells (rc 0 0 (.slice none 0 0)) 44 (0, 0)), (wd.heap.size, .cells (hc Hs.zero (.slice none 0 0)) 29 (0, 0))] := by rw [← hY]; exact hPl.alloc (.cells (rc 0 0 (.slice none 0 0)) 44)
    replace hRs : Res (fun _ => N.code ≠ 0) W0 w17 [(w16.heap.size, .cells (rc 0 0 (.slice none 0 0)) 44 (0, 0)), (wd.heap.size, .cells (hc Hs.zero (.slice none 0 0)) 29 (0, 0))] (N) a1 cap1 v := by rw [← hY]; exact hRs.alloc (.cells (rc 0 0 (.slice none 0 0)) 44)
    clear hY
    refine ⟨hPl.low, ?_⟩
    (try simp only [Act.put, List.setIfInBounds_toArray, List.set_cons_succ, List.set_cons_zero])
    replace hPl := hPl.swap
    replace hRs := hRs.swap
    have hx := (hPl.box (wd.heap.size, .cells (hc Hs.zero (.slice none 0 0)) 29 (0, 0)) (by simp)).2
    have hy := (hPl.box (w16.heap.size, .cells (rc 0 0 (.slice none 0 0)) 44 (0, 0)) (by simp)).2
    have hxy : wd.heap.size ≠ w16.heap.size := by have := hPl.nodup; simp only [List.map_cons, List.map_nil, List.nodup_cons, List.mem_singleton, List.not_mem_nil, not_false_eq_true, List.nodup_nil, and_true] at this; exact this
    refine wpG_one (i := 11) (by kernel_rfl) rfl ?_
    go_wp2_with (first | go_skip | (refine st_row 29 _ _ rfl rfl _ rfl _ rfl _ _ hx info30 rfl (hc_one _ _ rfl) ?_; intro wa hra hgra hsza))
    refine ⟨(({ hPl with box := by simp, nodup := by simp } : Pool W0 w17 []).only (by exact only_grown hgra) (fun b e => by cases e; exact (hPl.box (wd.heap.size, .cells (hc Hs.zero (.slice none 0 0)) 29 (0, 0)) (by simp)).1) (by simp)).low, ?_⟩
    (try simp only [Act.put, List.setIfInBounds_toArray, List.set_cons_succ, List.set_cons_zero])
    refine wpG_drop 12 rfl (by kernel_rfl) ?_
    simp only [List.drop_succ_cons, List.drop_zero]
    go_wp2_with (first | go_skip | (refine st_row 44 _ _ rfl rfl _ rfl (rc (N).code (N).n v) rfl _ _ ((hgra.block _ (hlt hy) (by simpa using Ne.symm hxy)).trans hy) infoRp rfl (rc_one _ _ _ hv1) ?_; intro wb hrb hgrb hszb))
    go_meet
    case rel => exact ⟨wd.heap.size, w16.heap.size, a1, cap1, v, rfl, rfl, two_of hPl hRs hgra hra hgrb hrb⟩
   ·go_wp2_with (first | go_skip)
    generalize hY : World.alloc w15 _ = w18
    replace hPl : Pool W0 w18 [(w15.heap.size, .cells (rc 0 0 (.slice none 0 0)) 44 (0, 0)), (wd.heap.size, .cells (hc Hs.zero (.slice none 0 0)) 29 (0, 0))] := by rw [← hY]; exact hPl.alloc (.cells (rc 0 0 (.slice none 0 0)) 44)
    clear hY
    refine ⟨hPl.low, ?_⟩
    (try simp only [Act.put, List.setIfInBounds_toArray, List.set_cons_succ, List.set_cons_zero])
    refine wpG_one (i := 5) (by kernel_rfl) rfl ?_
    go_wp2_with (first | go_skip | (go_at_call 34; refine (cN.out w18 hPl.low).mono ?_; rintro e w19 ⟨⟨a1, cap1, v, rfl, hq1, ho1, hs1'⟩, hb1⟩))
    have hpr := NextsPost.res hPl ha0.out hq1 ho1 hs1' hb1
    replace hPl := hpr.1
    have hRs := hpr.2
    have hv1 : v.oneCell' = true := ho1.one
    clear hpr hq1 ho1 hs1' hb1
    refine ⟨hPl.low, ?_⟩
    (try simp only [Act.put, List.setIfInBounds_toArray, List.set_cons_succ, List.set_cons_zero])
    refine wpG_put 95 (i := 6) (oi := _) (v := (.tuple #[.agg (hc N.h (.slice a1 N.l.length cap1)), .agg (rc N.code N.n v)])) [6] rfl rfl (by kernel_rfl) (by kernel_rfl) (by kernel_rfl) (by kernel_rfl) (fun _ _ _ h => h) hPl.low ?hy12 ?rs12
    case hy12 => exact Or.inl ⟨by rfl, by intro w' hb; go_simp⟩
    (try simp only [Act.put, List.setIfInBounds_toArray, List.set_cons_succ, List.set_cons_zero])
    refine wpG_put 102 (i := 7) (oi := _) (v := (.agg (hc N.h (.slice a1 N.l.length cap1)))) [7] rfl rfl (by kernel_rfl) (by kernel_rfl) (by kernel_rfl) (by kernel_rfl) (fun _ _ _ h => h) hPl.low ?hy13 ?rs13
    case hy13 => exact Or.inl ⟨by rfl, by intro w' hb; go_simp⟩
    (try simp only [Act.put, List.setIfInBounds_toArray, List.set_cons_succ, List.set_cons_zero])
    refine wpG_put 103 (i := 8) (oi := _) (v := (.agg (rc N.code N.n v))) [8] rfl rfl (by kernel_rfl) (by kernel_rfl) (by kernel_rfl) (by kernel_rfl) (fun _ _ _ h => h) hPl.low ?hy14 ?rs14
    case hy14 => exact Or.inl ⟨by rfl, by intro w' hb; go_simp⟩
    (try simp only [Act.put, List.setIfInBounds_toArray, List.set_cons_succ, List.set_cons_zero])
    replace hPl := hPl.swap
    replace hRs := hRs.swap
    have hx := (hPl.box (wd.heap.size, .cells (hc Hs.zero (.slice none 0 0)) 29 (0, 0)) (by simp)).2
    have hy := (hPl.box (w15.heap.size, .cells (rc 0 0 (.slice none 0 0)) 44 (0, 0)) (by simp)).2
    have hxy : wd.heap.size ≠ w15.heap.size := by have := hPl.nodup; simp only [List.map_cons, List.map_nil, List.nodup_cons, List.mem_singleton, List.not_mem_nil, not_false_eq_true, List.nodup_nil, and_true] at this; exact this
    refine wpG_one (i := 11) (by kernel_rfl) rfl ?_
    go_wp2_with (first | go_skip | (refine st_row 29 _ _ rfl rfl _ rfl _ rfl _ _ hx info30 rfl (hc_one _ _ rfl) ?_; intro wa hra hgra hsza))
    refine ⟨(({ hPl with box := by simp, nodup := by simp } : Pool W0 w19 []).only (by exact only_grown hgra) (fun b e => by cases e; exact (hPl.box (wd.heap.size, .cells (hc Hs.zero (.slice none 0 0)) 29 (0, 0)) (by simp)).1) (by simp)).low, ?_⟩
    (try simp only [Act.put, List.setIfInBounds_toArray, List.set_cons_succ, List.set_cons_zero])
    refine wpG_drop 12 rfl (by kernel_rfl) ?_
    simp only [List.drop_succ_cons, List.drop_zero]
    go_wp2_with (first | go_skip | (refine st_row 44 _ _ rfl rfl _ rfl (rc (N).code (N).n v) rfl _ _ ((hgra.block _ (hlt hy) (by simpa using Ne.symm hxy)).trans hy) infoRp rfl (rc_one _ _ _ hv1) ?_; intro wb hrb hgrb hszb))
    go_meet
    case rel => exact ⟨wd.heap.size, w15.heap.size, a1, cap1, v, rfl, rfl, two_of hPl hRs hgra hra hgrb hrb⟩
  ·go_wp2_with (first | go_skip)
   generalize hY : World.alloc wd _ = w20
   replace hPl : Pool W0 w20 [(wd.heap.size, .cells (rc 0 0 (.slice none 0 0)) 44 (0, 0))] := by rw [← hY]; exact hPl.alloc (.cells (rc 0 0 (.slice none 0 0)) 44)
   clear hY
   refine ⟨hPl.low, ?_⟩
   (try simp only [Act.put, List.setIfInBounds_toArray, List.set_cons_succ, List.set_cons_zero])
   refine wpG_two (i := 5) (j := 9) (by kernel_rfl) rfl rfl ?_ ?_
   ·go_wp2_with (first | go_skip | (go_at_call 34; refine (cN.out w20 hPl.low).mono ?_; rintro e w21 ⟨⟨a1, cap1, v, rfl, hq1, ho1, hs1'⟩, hb1⟩))
    have hpr := NextsPost.res hPl ha0.out hq1 ho1 hs1' hb1
    replace hPl := hpr.1
    have hRs := hpr.2
    have hv1 : v.oneCell' = true := ho1.one
    clear hpr hq1 ho1 hs1' hb1
    refine ⟨hPl.low, ?_⟩
    (try simp only [Act.put, List.setIfInBounds_toArray, List.set_cons_succ, List.set_cons_zero])
    refine wpG_put 95 (i := 6) (oi := _) (v := (.tuple #[.agg (hc N.h (.slice a1 N.l.length cap1)), .agg (rc N.code N.n v)])) [6] rfl rfl (by kernel_rfl) (by kernel_rfl) (by kernel_rfl) (by kernel_rfl) (fun _ _ _ h => h) hPl.low ?hy15 ?rs15
    case hy15 => exact Or.inl ⟨by rfl, by intro w' hb; go_simp⟩
    (try simp only [Act.put, List.setIfInBounds_toArray, List.set_cons_succ, List.set_cons_zero])
    refine wpG_put 102 (i := 7) (oi := _) (v := (.agg (hc N.h (.slice a1 N.l.length cap1)))) [7] rfl rfl (by kernel_rfl) (by kernel_rfl) (by kernel_rfl) (by kernel_rfl) (fun _ _ _ h => h) hPl.low ?hy16 ?rs16
    case hy16 => exact Or.inl ⟨by rfl, by intro w' hb; go_simp⟩
    (try simp only [Act.put, List.setIfInBounds_toArray, List.set_cons_succ, List.set_cons_zero])
    refine wpG_put 103 (i := 8) (oi := _) (v := (.agg (rc N.code N.n v))) [8] rfl rfl (by kernel_rfl) (by kernel_rfl) (by kernel_rfl) (by kernel_rfl) (fun _ _ _ h => h) hPl.low ?hy17 ?rs17
    case hy17 => exact Or.inl ⟨by rfl, by intro w' hb; go_simp⟩
    (try simp only [Act.put, List.setIfInBounds_toArray, List.set_cons_succ, List.set_cons_zero])
    refine wpG_one (i := 9) (by kernel_rfl) rfl ?_
    go_wp2_with (first | go_skip)
    generalize hY : World.alloc w21 _ = w22
    replace hPl : Pool W0 w22 [(w21.heap.size, .cells (hc Hs.zero (.slice none 0 0)) 29 (0, 0)), (wd.heap.size, .cells (rc 0 0 (.slice none 0 0)) 44 (0, 0))] := by rw [← hY]; exact hPl.alloc (.cells (hc Hs.zero (.slice none 0 0)) 29)
    replace hRs : Res (fun _ => N.code ≠ 0) W0 w22 [(w21.heap.size, .cells (hc Hs.zero (.slice none 0 0)) 29 (0, 0)), (wd.heap.size, .cells (rc 0 0 (.slice none 0 0)) 44 (0, 0))] (N) a1 cap1 v := by rw [← hY]; exact hRs.alloc (.cells (hc Hs.zero (.slice none 0 0)) 29)
    clear hY
    refine ⟨hPl.low, ?_⟩
    (try simp only [Act.put, List.setIfInBounds_toArray, List.set_cons_succ, List.set_cons_zero])
    have hx := (hPl.box (w21.heap.size, .cells (hc Hs.zero (.slice none 0 0)) 29 (0, 0)) (by simp)).2
    have hy := (hPl.box (wd.heap.size, .cells (rc 0 0 (.slice none 0 0)) 44 (0, 0)) (by simp)).2
    have hxy : w21.heap.size ≠ wd.heap.size := by have := hPl.nodup; simp only [List.map_cons, List.map_nil, List.nodup_cons, List.mem_singleton, List.not_mem_nil, not_false_eq_true, List.nodup_nil, and_true] at this; exact this
    refine wpG_one (i := 11) (by kernel_rfl) rfl ?_
    go_wp2_with (first | go_skip | (refine st_row 29 _ _ rfl rfl _ rfl _ rfl _ _ hx info30 rfl (hc_one _ _ rfl) ?_; intro wa hra hgra hsza))
    refine ⟨(({ hPl with box := by simp, nodup := by simp } : Pool W0 w22 []).only (by exact only_grown hgra) (fun b e => by cases e; exact (hPl.box (w21.heap.size, .cells (hc Hs.zero (.slice none 0 0)) 29 (0, 0)) (by simp)).1) (by simp)).low, ?_⟩
    (try simp only [Act.put, List.setIfInBounds_toArray, List.set_cons_succ, List.set_cons_zero])
    refine wpG_drop 12 rfl (by kernel_rfl) ?_
    simp only [List.drop_succ_cons, List.drop_zero]
    go_wp2_with (first | go_skip | (refine st_row 44 _ _ rfl rfl _ rfl (rc (N).code (N).n v) rfl _ _ ((hgra.block _ (hlt hy) (by simpa using Ne.symm hxy)).trans hy) infoRp rfl (rc_one _ _ _ hv1) ?_; intro wb hrb hgrb hszb))
    go_meet
    case rel => exact ⟨w21.heap.size, wd.heap.size, a1, cap1, v, rfl, rfl, two_of hPl hRs hgra hra hgrb hrb⟩
   ·go_wp2_with (first | go_skip)
    generalize hY : World.alloc w20 _ = w23
    replace hPl : Pool W0 w23 [(w20.heap.size, .cells (hc Hs.zero (.slice none 0 0)) 29 (0, 0)), (wd.heap.size, .cells (rc 0 0 (.slice none 0 0)) 44 (0, 0))] := by rw [← hY]; exact hPl.alloc (.cells (hc Hs.zero (.slice none 0 0)) 29)
    clear hY
    refine ⟨hPl.low, ?_⟩
    (try simp only [Act.put, List.setIfInBounds_toArray, List.set_cons_succ, List.set_cons_zero])
    refine wpG_one (i := 5) (by kernel_rfl) rfl ?_
    go_wp2_with (first | go_skip | (go_at_call 34; refine (cN.out w23 hPl.low).mono ?_; rintro e w24 ⟨⟨a1, cap1, v, rfl, hq1, ho1, hs1'⟩, hb1⟩))
    have hpr := NextsPost.res hPl ha0.out hq1 ho1 hs1' hb1
    replace hPl := hpr.1
    have hRs := hpr.2
    have hv1 : v.oneCell' = true := ho1.one
    clear hpr hq1 ho1 hs1' hb1
    refine ⟨hPl.low, ?_⟩
    (try simp only [Act.put, List.setIfInBounds_toArray, List.set_cons_succ, List.set_cons_zero])
    refine wpG_put 95 (i := 6) (oi := _) (v := (.tuple #[.agg (hc N.h (.slice a1 N.l.length cap1)), .agg (rc N.code N.n v)])) [6] rfl rfl (by kernel_rfl) (by kernel_rfl) (by kernel_rfl) (by kernel_rfl) (fun _ _ _ h => h) hPl.low ?hy18 ?rs18
    case hy18 => exact Or.inl ⟨by rfl, by intro w' hb; go_simp⟩
    (try simp only [Act.put, List.setIfInBounds_toArray, List.set_cons_succ, List.set_cons_zero])
    refine wpG_put 102 (i := 7) (oi := _) (v := (.agg (hc N.h (.slice a1 N.l.length cap1)))) [7] rfl rfl (by kernel_rfl) (by kernel_rfl) (by kernel_rfl) (by kernel_rfl) (fun _ _ _ h => h) hPl.low ?hy19 ?rs19
    case hy19 => exact Or.inl ⟨by rfl, by intro w' hb; go_simp⟩
    (try simp only [Act.put, List.setIfInBounds_toArray, List.set_cons_succ, List.set_cons_zero])
    refine wpG_put 103 (i := 8) (oi := _) (v := (.agg (rc N.code N.n v))) [8] rfl rfl (by kernel_rfl) (by kernel_rfl) (by kernel_rfl) (by kernel_rfl) (fun _ _ _ h => h) hPl.low ?hy20 ?rs20
    case hy20 => exact Or.inl ⟨by rfl, by intro w' hb; go_simp⟩
    (try simp only [Act.put, List.setIfInBounds_toArray, List.set_cons_succ, List.set_cons_zero])
    have hx := (hPl.box (w20.heap.size, .cells (hc Hs.zero (.slice none 0 0)) 29 (0, 0)) (by simp)).2
    have hy := (hPl.box (wd.heap.size, .cells (rc 0 0 (.slice none 0 0)) 44 (0, 0)) (by simp)).2
    have hxy : w20.heap.size ≠ wd.heap.size := by have := hPl.nodup; simp only [List.map_cons, List.map_nil, List.nodup_cons, List.mem_singleton, List.not_mem_nil, not_false_eq_true, List.nodup_nil, and_true] at this; exact this
    refine wpG_one (i := 11) (by kernel_rfl) rfl ?_
    go_wp2_with (first | go_skip | (refine st_row 29 _ _ rfl rfl _ rfl _ rfl _ _ hx info30 rfl (hc_one _ _ rfl) ?_; intro wa hra hgra hsza))
    refine ⟨(({ hPl with box := by simp, nodup := by simp } : Pool W0 w24 []).only (by exact only_grown hgra) (fun b e => by cases e; exact (hPl.box (w20.heap.size, .cells (hc Hs.zero (.slice none 0 0)) 29 (0, 0)) (by simp)).1) (by simp)).low, ?_⟩
    (try simp only [Act.put, List.setIfInBounds_toArray, List.set_cons_succ, List.set_cons_zero])
    refine wpG_drop 12 rfl (by kernel_rfl) ?_
    simp only [List.drop_succ_cons, List.drop_zero]
    go_wp2_with (first | go_skip | (refine st_row 44 _ _ rfl rfl _ rfl (rc (N).code (N).n v) rfl _ _ ((hgra.block _ (hlt hy) (by simpa using Ne.symm hxy)).trans hy) infoRp rfl (rc_one _ _ _ hv1) ?_; intro wb hrb hgrb hszb))
    go_meet
    case rel => exact ⟨w20.heap.size, wd.heap.size, a1, cap1, v, rfl, rfl, two_of hPl hRs hgra hra hgrb hrb⟩
 case rest =>
  obtain ⟨gx, gy, a1, cap1, v, rfl, rfl, tw⟩ := hcut
  obtain ⟨al, cl, rfl, _, _⟩ := tw.ints.at_
  have hPc := hkeep tw.low hP1
  have hDc := hkeep tw.low hD1
  have hRc := hkeep tw.low hR1
  have hOc := hO1.more tw.low
  have hsc := tw.low.size
  have hx := tw.hx
  have hy := tw.hy
  have hbx := tw.bx
  have hby := tw.yb
  clear hP1 hD1 hR1 hO1 cN ha0
  have cY := cells_at hy
  by_cases e0 : N.code = 0
  ·have q0 : (N.code == 0) = true := by rw [beq_iff_eq]; exact e0
   have hsrc : 0 < N.l.length → ∀ b off s, a1 = some ⟨b, off, s⟩ → W0.heap.size ≤ b ∧ (Value.slice al (nats N.done).length cl).ownBlock ≠ some b := fun hl b off s e => by
    have hs := tw.src hl b off s e
    exact ⟨hs.1.resolve_left fun h => h e0, hs.2.1⟩
   have hpay := tw.pays
   have hint := tw.ints
   rw [if_neg (by simpa using e0)] at eX
   clear tw
   replace hsrc := Lib.hid hsrc
   replace hint := Lib.hid hint
   replace hpay := Lib.hid hpay
   cases hno : noted ⟨k, a, b, c, x⟩ with
   | false =>
    have cF := fun w => frame_any ⟨k, a, b, c, x⟩ w
    rw [show framed ⟨k, a, b, c, x⟩ = ([], 3) from by simp [framed, hno]] at cF
    obtain ⟨sf, hsf⟩ : ∃ sf, str [] = sf := ⟨_, rfl⟩
    simp only [hsf] at cF
    rw [if_pos hno] at eX
    replace cF := Lib.hid cF
    replace hno := Lib.hid hno
    replace hsf := Lib.hid hsf
    replace e0 := Lib.hid e0
    go_upto_region 25 with (first | go_skip | (refine ld_row 40 _ rfl rfl _ rfl _ _ _ _ hDc Try.underlying40 rfl info44 ?_) | (go_at_call 55; refine (cF.out _).mono ?_; rintro e w2 ⟨rfl, hb2⟩))
    replace hOc := hOc.more hb2
    replace hPc := hkeep hb2 hPc
    replace hRc := hkeep hb2 hRc
    have h2s := hb2.size
    clear hb2 hx hy cY
    go_wp2_with (first | go_skip | (go_at_call 52; refine (doNo_any 3 _).mono ?_; rintro e wn ⟨rfl, hbn⟩) | (refine st_row 44 _ _ rfl rfl _ rfl (rc 3 0 (.slice none 0 0)) rfl _ _ (hkeep hbn hRc) infoRp rfl (rc_one _ _ _ rfl) ?_; intro wb hrb hgrb hszb))
    exact bodyPost_ret (results_cell_row rfl _ _ _ 44 _ (0, 0) _ rfl hrb Try.underlying44 rfl infoRp) rfl (by rw [eX.out]; exact do_end_no (K := ⟨h, l, t, false, f, n + 1⟩) rfl ((hgrb.block p (hlt (hkeep hbn hPc)) (by simp; omega)).trans (hkeep hbn hPc)) hp.out hap.out ((hOc.more hbn).step (only_grown hgrb) fun b e => by cases e; right; omega))
   | true =>
    have cF := fun w => frame_any ⟨k, a, b, c, x⟩ w
    rw [show framed ⟨k, a, b, c, x⟩ = (frame ⟨k, a, b, c, x⟩, 0) from by simp [framed, hno]] at cF
    have hfl := frame_len ⟨k, a, b, c, x⟩
    have hbl := body_len hno
    rw [if_neg (by rw [hno]; simp)] at eX
    obtain ⟨fr, hfr⟩ : ∃ fr, frame ⟨k, a, b, c, x⟩ = fr := ⟨_, rfl⟩
    rw [hfr] at hfl eX
    simp only [hfr] at cF
    have hff : fr.length ≤ 40 := by omega
    clear hfl hbl
    have hts : (str t).size = t.length := str_size t
    have hfs : (str fr).size = fr.length := str_size fr
    replace cF := Lib.hid cF
    replace hno := Lib.hid hno
    replace hfr := Lib.hid hfr
    replace e0 := Lib.hid e0
    go_upto_region 26 with (first | go_skip | (refine ld_row 40 _ rfl rfl _ rfl _ _ _ _ hDc Try.underlying40 rfl info44 ?_) | (go_at_call 55; refine (cF.out _).mono ?_; rintro e w2 ⟨rfl, hb2⟩))
    replace hOc := hOc.more hb2
    replace hPc := hkeep hb2 hPc
    replace hRc := hkeep hb2 hRc
    replace hx := hkeep hb2 hx
    replace hy := hkeep hb2 hy
    replace hpay := Lib.hid (hpay.out.below hb2)
    replace hint := Lib.hid (hint.out.below hb2)
    have h2s := hb2.size
    clear hb2 cY cF hDc
    have cP := cells_at hPc
    by_cases h6 : 4000 < t.length + fr.length
    ·rw [if_pos h6] at eX
     have h6i : (4000 : Int) < (t.length : Int) + (fr.length : Int) := by omega
     have h6d : decide ((4000 : Int) < (t.length : Int) + (fr.length : Int)) = true := decide_eq_true h6i
     replace eX := Lib.hid eX
     go_wp2_with (first | go_skip | (go_at_call 52; refine (doNo_any 5 _).mono ?_; rintro e wn ⟨rfl, hbn⟩) | (refine st_row 44 _ _ rfl rfl _ rfl (rc 5 0 (.slice none 0 0)) rfl _ _ (hkeep hbn hRc) infoRp rfl (rc_one _ _ _ rfl) ?_; intro wb hrb hgrb hszb))
     exact bodyPost_ret (results_cell_row rfl _ _ _ 44 _ (0, 0) _ rfl hrb Try.underlying44 rfl infoRp) rfl (by rw [eX.out]; exact do_end_no (K := ⟨h, l, t, false, f, n + 1⟩) rfl ((hgrb.block p (hlt (hkeep hbn hPc)) (by simp; omega)).trans (hkeep hbn hPc)) hp.out hap.out ((hOc.more hbn).step (only_grown hgrb) fun b e => by cases e; right; omega))
    ·rw [if_neg h6] at eX
     have h6i : ¬ (4000 : Int) < (t.length : Int) + (fr.length : Int) := by omega
     have h6d : decide ((4000 : Int) < (t.length : Int) + (fr.length : Int)) = false := decide_eq_false h6i
     by_cases h7 : 0 ≤ f
     ·rw [if_pos h7] at eX
      have h7d : decide ((0 : Int) ≤ f) = true := decide_eq_true h7
      obtain ⟨j, hj⟩ : ∃ j, min f.toNat fr.length = j := ⟨_, rfl⟩
      rw [hj] at eX
      have hjl : j ≤ fr.length := by omega
      have hmin : min f (fr.length : Int) = (j : Int) := by omega
      have hcut := str_cut fr j
      have hjs : (str (fr.take j)).size = j := by rw [str_size, List.length_take]; omega
      have happ : str t ++ str (fr.take j) = str (t ++ fr.take j) := str_app _ _
      replace hj := Lib.hid hj
      replace eX := Lib.hid eX
      go_upto_region 29 with fail
      have hcI : ∀ w' : World, Below w2.heap.size w2 w' → w'.cell? ⟨p, 42, none⟩ = some (.string (str t)) ∧ w'.cell? ⟨p, 44, none⟩ = some (.int .i64 f) := fun w' hb => ⟨(cells_at (hkeep hb hPc) 42).trans (bc_42 _ _ _ _ _ _), (cells_at (hkeep hb hPc) 44).trans (bc_44 _ _ _ _ _ _)⟩
      replace hcI := Lib.hid hcI
      refine wpG_start (Below w2.heap.size w2) 14 (by kernel_rfl) ?_
      have hI0 : Below w2.heap.size w2 w2.drew := (Below.refl _ _).drew
      have hPd : w2.drew.heap[p]? = some (.cells (bc h (.slice a0 l.length cap0) t false f ((n + 1 : Nat) : Int)) 83 (0, 0)) := hPc
      have hRd : w2.drew.heap[w.heap.size + 1]? = some (.cells (rc 0 0 (.slice none 0 0)) 44 (0, 0)) := hRc
      have hOd : Only (fun b => b = p) w w2.drew := hOc.drew
      have hsd : W0.heap.size ≤ w2.drew.heap.size := by show W0.heap.size ≤ w2.heap.size; omega
      clear hx hy hPc hRc hOc cP
      generalize World.drew w2 = wd at *
      refine wpG_put 137 (i := 0) (oi := _) (v := (.pointer (some ⟨p, 0, none⟩))) [0] rfl rfl (by kernel_rfl) (by kernel_rfl) (by kernel_rfl) (by kernel_rfl) (fun _ _ _ h => h) hI0 ?hy21 ?rs21
      case hy21 => exact Or.inl ⟨by rfl, by intro w' hb; obtain ⟨c1, c2⟩ := hcI.out w' hb; go_simp; first | done | omega⟩
      (try simp only [Act.put, List.setIfInBounds_toArray, List.set_cons_succ, List.set_cons_zero])
      refine wpG_put 138 (i := 1) (oi := _) (v := (.pointer (some ⟨p, 0, none⟩))) [1] rfl rfl (by kernel_rfl) (by kernel_rfl) (by kernel_rfl) (by kernel_rfl) (fun _ _ _ h => h) hI0 ?hy22 ?rs22
      case hy22 => exact Or.inl ⟨by rfl, by intro w' hb; obtain ⟨c1, c2⟩ := hcI.out w' hb; go_simp; first | done | omega⟩
      (try simp only [Act.put, List.setIfInBounds_toArray, List.set_cons_succ, List.set_cons_zero])
      refine wpG_put 139 (i := 2) (oi := _) (v := (.pointer (some ⟨p, 42, none⟩))) [2] rfl rfl (by kernel_rfl) (by kernel_rfl) (by kernel_rfl) (by kernel_rfl) (fun _ _ _ h => h) hI0 ?hy23 ?rs23
      case hy23 => exact Or.inl ⟨by rfl, by intro w' hb; obtain ⟨c1, c2⟩ := hcI.out w' hb; go_simp; first | done | omega⟩
      (try simp only [Act.put, List.setIfInBounds_toArray, List.set_cons_succ, List.set_cons_zero])
      refine wpG_put 140 (i := 3) (oi := _) (v := (.string (str t))) [3] rfl rfl (by kernel_rfl) (by kernel_rfl) (by kernel_rfl) (by kernel_rfl) (fun _ _ _ h => h) hI0 ?hy24 ?rs24
      case hy24 => exact Or.inl ⟨by rfl, by intro w' hb; obtain ⟨c1, c2⟩ := hcI.out w' hb; go_simp; first | done | omega⟩
      (try simp only [Act.put, List.setIfInBounds_toArray, List.set_cons_succ, List.set_cons_zero])
      refine wpG_put 141 (i := 4) (oi := _) (v := (.string (str fr))) [4] rfl rfl (by kernel_rfl) (by kernel_rfl) (by kernel_rfl) (by kernel_rfl) (fun _ _ _ h => h) hI0 ?hy25 ?rs25
      case hy25 => exact Or.inl ⟨by rfl, by intro w' hb; obtain ⟨c1, c2⟩ := hcI.out w' hb; go_simp; first | done | omega⟩
      (try simp only [Act.put, List.setIfInBounds_toArray, List.set_cons_succ, List.set_cons_zero])
      refine wpG_put 142 (i := 5) (oi := _) (v := (.pointer (some ⟨p, 0, none⟩))) [5] rfl rfl (by kernel_rfl) (by kernel_rfl) (by kernel_rfl) (by kernel_rfl) (fun _ _ _ h => h) hI0 ?hy26 ?rs26
      case hy26 => exact Or.inl ⟨by rfl, by intro w' hb; obtain ⟨c1, c2⟩ := hcI.out w' hb; go_simp; first | done | omega⟩
      (try simp only [Act.put, List.setIfInBounds_toArray, List.set_cons_succ, List.set_cons_zero])
      refine wpG_put 143 (i := 6) (oi := _) (v := (.pointer (some ⟨p, 0, none⟩))) [6] rfl rfl (by kernel_rfl) (by kernel_rfl) (by kernel_rfl) (by kernel_rfl) (fun _ _ _ h => h) hI0 ?hy27 ?rs27
      case hy27 => exact Or.inl ⟨by rfl, by intro w' hb; obtain ⟨c1, c2⟩ := hcI.out w' hb; go_simp; first | done | omega⟩
      (try simp only [Act.put, List.setIfInBounds_toArray, List.set_cons_succ, List.set_cons_zero])
      refine wpG_put 144 (i := 7) (oi := _) (v := (.pointer (some ⟨p, 44, none⟩))) [7] rfl rfl (by kernel_rfl) (by kernel_rfl) (by kernel_rfl) (by kernel_rfl) (fun _ _ _ h => h) hI0 ?hy28 ?rs28
      case hy28 => exact Or.inl ⟨by rfl, by intro w' hb; obtain ⟨c1, c2⟩ := hcI.out w' hb; go_simp; first | done | omega⟩
      (try simp only [Act.put, List.setIfInBounds_toArray, List.set_cons_succ, List.set_cons_zero])
      refine wpG_put 145 (i := 8) (oi := _) (v := (.int .i64 f)) [8] rfl rfl (by kernel_rfl) (by kernel_rfl) (by kernel_rfl) (by kernel_rfl) (fun _ _ _ h => h) hI0 ?hy29 ?rs29
      case hy29 => exact Or.inl ⟨by rfl, by intro w' hb; obtain ⟨c1, c2⟩ := hcI.out w' hb; go_simp; first | done | omega⟩
      (try simp only [Act.put, List.setIfInBounds_toArray, List.set_cons_succ, List.set_cons_zero])
      refine wpG_put 146 (i := 9) (oi := _) (v := (.string (str fr))) [9] rfl rfl (by kernel_rfl) (by kernel_rfl) (by kernel_rfl) (by kernel_rfl) (fun _ _ _ h => h) hI0 ?hy30 ?rs30
      case hy30 => exact Or.inl ⟨by rfl, by intro w' hb; obtain ⟨c1, c2⟩ := hcI.out w' hb; go_simp; first | done | omega⟩
      (try simp only [Act.put, List.setIfInBounds_toArray, List.set_cons_succ, List.set_cons_zero])
      refine wpG_put 147 (i := 10) (oi := _) (v := (.int .i64 (fr.length : Int))) [10] rfl rfl (by kernel_rfl) (by kernel_rfl) (by kernel_rfl) (by kernel_rfl) (fun _ _ _ h => h) hI0 ?hy31 ?rs31
      case hy31 => exact Or.inl ⟨by rfl, by intro w' hb; obtain ⟨c1, c2⟩ := hcI.out w' hb; go_simp; first | done | omega⟩
      (try simp only [Act.put, List.setIfInBounds_toArray, List.set_cons_succ, List.set_cons_zero])
      refine wpG_put 148 (i := 11) (oi := _) (v := (.int .i64 (j : Int))) [11] rfl rfl (by kernel_rfl) (by kernel_rfl) (by kernel_rfl) (by kernel_rfl) (fun _ _ _ h => h) hI0 ?hy32 ?rs32
      case hy32 => exact Or.inl ⟨by rfl, by intro w' hb; obtain ⟨c1, c2⟩ := hcI.out w' hb; go_simp; first | done | omega⟩
      (try simp only [Act.put, List.setIfInBounds_toArray, List.set_cons_succ, List.set_cons_zero])
      refine wpG_put 149 (i := 12) (oi := _) (v := (.string (str (fr.take j)))) [12] rfl rfl (by kernel_rfl) (by kernel_rfl) (by kernel_rfl) (by kernel_rfl) (fun _ _ _ h => h) hI0 ?hy33 ?rs33
      case hy33 => exact Or.inl ⟨by rfl, by intro w' hb; obtain ⟨c1, c2⟩ := hcI.out w' hb; go_simp; first | done | omega⟩
      (try simp only [Act.put, List.setIfInBounds_toArray, List.set_cons_succ, List.set_cons_zero])
      refine wpG_put 150 (i := 13) (oi := _) (v := (.string (str (t ++ fr.take j)))) [13] rfl rfl (by kernel_rfl) (by kernel_rfl) (by kernel_rfl) (by kernel_rfl) (fun _ _ _ h => h) hI0 ?hy34 ?rs34
      case hy34 => exact Or.inl ⟨by rfl, by intro w' hb; obtain ⟨c1, c2⟩ := hcI.out w' hb; go_simp; first | done | omega⟩
      (try simp only [Act.put, List.setIfInBounds_toArray, List.set_cons_succ, List.set_cons_zero])
      refine wpG_drop 14 rfl (by kernel_rfl) ?_
      simp only [List.drop_succ_cons, List.drop_zero]
      clear hI0 hcI
      have cP := cells_at hPd
      have fP := frozenAt hPd
      have hset := hsetSame (i := 42) hPd (.string (str (t ++ fr.take j)))
      rw [bc_setText] at hset
      have hset2 := hsetSame (i := 44) hset (.int .i64 (-1))
      rw [bc_setFail] at hset2
      have hset3 := hsetSame (i := 43) hset2 (.bool true)
      rw [bc_setDown] at hset3
      replace hset := Lib.hid hset
      replace hset2 := Lib.hid hset2
      replace hset3 := Lib.hid hset3
      go_upto_region 31 with fail
      generalize hW4 : World.setCell (World.setCell (World.setCell wd _ _) _ _) _ _ = W4
      have hP4 : W4.heap[p]? = some (.cells (bc h (.slice a0 l.length cap0) (t ++ fr.take j) true (-1) ((n + 1 : Nat) : Int)) 83 (0, 0)) := by rw [← hW4]; exact hset3.out
      have hR4 : W4.heap[w.heap.size + 1]? = some (.cells (rc 0 0 (.slice none 0 0)) 44 (0, 0)) := by rw [← hW4]; exact hsetOther (hsetOther (hsetOther hRd (by omega) _) (by omega) _) (by omega) _
      have hO4 : Only (fun b => b = p) w W4 := by rw [← hW4]; exact ((hOd.trans (only_set p 42 _ wd)).trans (only_set p 44 _ _)).trans (only_set p 43 _ _)
      clear hW4 hset hset2 hset3 cP fP hPd hRd hOd
      go_wp2_with (first | go_skip | (go_at_call 52; refine (doNo_any 7 _).mono ?_; rintro e wn ⟨rfl, hbn⟩) | (refine st_row 44 _ _ rfl rfl _ rfl (rc 7 0 (.slice none 0 0)) rfl _ _ (hkeep hbn hR4) infoRp rfl (rc_one _ _ _ rfl) ?_; intro wb hrb hgrb hszb))
      exact bodyPost_ret (results_cell_row rfl _ _ _ 44 _ (0, 0) _ rfl hrb Try.underlying44 rfl infoRp) rfl (by rw [eX.out]; exact do_end_no (K := ⟨h, l, t ++ fr.take j, true, -1, n + 1⟩) rfl ((hgrb.block p (hlt (hkeep hbn hP4)) (by simp; omega)).trans (hkeep hbn hP4)) hp.out hap.out ((hO4.more hbn).step (only_grown hgrb) fun b e => by cases e; right; omega))
     ·rw [if_neg h7] at eX
      have h7i : f < 0 := by omega
      have h7d : decide ((0 : Int) ≤ f) = false := decide_eq_false h7
      have happ : str t ++ str fr = str (t ++ fr) := str_app _ _
      replace eX := Lib.hid eX
      have fP := frozenAt hPc
      have hset := hsetSame (i := 42) hPc (.string (str (t ++ fr)))
      rw [bc_setText] at hset
      replace hset := Lib.hid hset
      have hgxl := hlt hx
      have hgyl := hlt hy
      go_upto_region 33 with fail
      generalize hW4 : World.setCell w2 _ _ = W4
      have hP4 : W4.heap[p]? = some (.cells (bc h (.slice a0 l.length cap0) (t ++ fr) false f ((n + 1 : Nat) : Int)) 83 (0, 0)) := by rw [← hW4]; exact hset.out
      have hR4 : W4.heap[w.heap.size + 1]? = some (.cells (rc 0 0 (.slice none 0 0)) 44 (0, 0)) := by rw [← hW4]; exact hsetOther hRc (by omega) _
      have hx4 : W4.heap[gx]? = some (.cells (hc N.h (.slice a1 N.l.length cap1)) 29 (0, 0)) := by rw [← hW4]; exact hsetOther hx (by omega) _
      have hy4 : W4.heap[gy]? = some (.cells (rc N.code N.n (.slice al (nats N.done).length cl)) 44 (0, 0)) := by rw [← hW4]; exact hsetOther hy (by omega) _
      have hO4 : Only (fun b => b = p) w W4 := by rw [← hW4]; exact hOc.trans (only_set p 42 _ w2)
      have hp4 : PaysAt W4 a1 cap1 N.l := by rw [← hW4]; exact (only_set p 42 _ w2).pays hpay.out fun hl b off s e => by have := hsrc.out hl b off s e; omega
      have hi4 : OwnInts W4 W0.heap.size (.slice al (nats N.done).length cl) (nats N.done) := by rw [← hW4]; exact (only_set p 42 _ w2).ints hint.out fun k hk => by have := hint.out.own hk; omega
      clear hW4 hset fP cP hPc hRc hx hy hOc
      replace hi4 := Lib.hid hi4
      go_upto_region 34 with (first | go_skip | (refine ld_row 29 _ rfl rfl _ rfl _ _ _ _ hx4 Try.underlying29 rfl info30 ?_) | (refine st_head 29 _ _ rfl rfl p rfl (hc N.h (.slice a1 N.l.length cap1)) rfl 83 _ _ hP4 info30 (by rw [bc_size, hc_size]; omega) (bc_head _ _ _ _ _ _ _ _) (hc_one _ _ rfl) ?_; intro wa hra hgra hsza))
      have hRa := (hgra.block _ (hlt hR4) (by simp; omega)).trans hR4
      have hya := (hgra.block _ (hlt hy4) (by simp; omega)).trans hy4
      have hOa := hO4.step (only_grown hgra) fun b e => by cases e; exact .inl rfl
      have hpa := payN hp4 hgra fun hl b off s e => by have := hsrc.out hl b off s e; omega
      have hia := hi4.out.grownN hgra fun k hk => by have := hi4.out.own hk; omega
      clear hP4 hR4 hx4 hy4 hO4 hp4 hi4 hgra
      replace hia := Lib.hid hia
      go_wp2_with (first | go_skip | (refine ld_row 44 _ rfl rfl _ rfl _ _ _ _ hya Try.underlying44 rfl infoRp ?_) | (refine st_row 44 _ _ rfl rfl _ rfl (rc N.code N.n (.slice al (nats N.done).length cl)) rfl _ _ hRa infoRp rfl (rc_one _ _ _ rfl) ?_; intro wb hrb hgrb hszb))
      exact bodyPost_ret (results_cell_row rfl _ _ _ 44 _ (0, 0) _ rfl hrb Try.underlying44 rfl infoRp) rfl (by rw [eX.out]; exact do_end (by rw [e0.out]) ((hia.out.grownN hgrb fun k hk => by have := hia.out.own hk; omega).mono (by omega)) ((hgrb.block p (hlt hra) (by simp; omega)).trans hra) (payN hpa hgrb fun hl b off s e => by have := hsrc.out hl b off s e; omega) (fun hl b off s e => by have := hsrc.out hl b off s e; exact ⟨by omega, fun hx => by have := hav b hx; omega, this.2⟩) (hOa.step (only_grown hgrb) fun b e => by cases e; right; omega))
  ·have q0 : (N.code == 0) = false := by rw [beq_eq_false_iff_ne]; exact e0
   rw [if_pos e0] at eX
   obtain ⟨hrh, hrl, hrn, hrd⟩ := hrf.out e0
   have eX2 : doL ⟨h, l, t, false, f, n⟩ ⟨k, a, b, c, x⟩ = (⟨h, l, t, false, f, n + 1⟩, ⟨N.code, N.n, N.done⟩) := by rw [eX, hrn, hrd]; rfl
   replace eX := Lib.hid eX2
   clear eX2
   replace hrn := Lib.hid hrn
   replace hrd := Lib.hid hrd
   replace hrh := Lib.hid hrh
   replace hrl := Lib.hid hrl
   replace e0 := Lib.hid e0
   go_wp2_with (first | go_skip | (refine ld_row 44 _ rfl rfl _ rfl _ _ _ _ hy Try.underlying44 rfl infoRp ?_) | (refine st_row 44 _ _ rfl rfl _ rfl (rc N.code N.n (.slice al (nats N.done).length cl)) rfl _ _ hRc infoRp rfl (rc_one _ _ _ rfl) ?_; intro wb hrb hgrb hszb))
   exact bodyPost_ret (results_cell_row rfl _ _ _ 44 _ (0, 0) _ rfl hrb Try.underlying44 rfl infoRp) rfl (by rw [eX.out]; exact do_end rfl ((tw.ints.grownN hgrb fun k hk => by have := tw.ints.own hk; omega).mono (by omega)) ((hgrb.block p (hlt hPc) (by simp; omega)).trans hPc) (payN ((hOc.pays hp.out fun hl b off s e => (hap.out hl b off s e).1)) hgrb fun hl b off s e => by have := hpl.out hl b off s e; omega) (fun hl b off s e => ⟨(hap.out hl b off s e).1, (hap.out hl b off s e).2, fun e' => by have := tw.ints.own e'; have := hpl.out hl b off s e; omega⟩) (hOc.step (only_grown hgrb) fun b e => by cases e; right; omega))
end Go.Proofs.Ytggfdkkhlokmlab


