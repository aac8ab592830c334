/- bank.Do: an opening; behind Next. -/
import Derived.Test.YtggfdkkhlokmlabDoA
import Derived.Test.YtggfdkkhlokmlabGate3
import Derived.Test.YtggfdkkhlokmlabCBk2
set_option linter.unusedSimpArgs false
namespace Go.Proofs.Ytggfdkkhlokmlab
open Go.RowKit
attribute [local go_sem] hc_pays hc_next hc_size rc_0 rc_1 rc_2 rc_size dc_0 dc_1 dc_2 dc_3 dc_4 dc_size bc_42 bc_43 bc_44 bc_45
theorem str_cut (t : List UInt8) (k : Nat) : (str t).extract 0 k = str (t.take k) := by
 rw [← str_of ((str t).extract 0 k), Lib.extract_data, str_data]; simp
set_option maxRecDepth 100000 in
set_option maxHeartbeats 4000000 in
theorem do_opened (p : Nat) (av : Nat → Prop) (h : Hs) (l : List Pay) (t : List UInt8) (f : Int) (n : Nat) (a b c x : Int) (w : World) (hB : BankAt w p av ⟨h, l, t, true, f, n⟩) (hn : n < 200) (ht : t.length ≤ 4000) (hav : ∀ x, av x → x < w.heap.size) :
  Calls Try.prog 26 #[.pointer (some ⟨p, 0, none⟩), .agg (dc ⟨11, a, b, c, x⟩)] w (DoPost p av (⟨(replayL (rd t).1).1, (replayL (rd t).1).2, t.take (rd t).2, false, f, n + 1⟩, ⟨0, ((rd t).1.length : Int), []⟩) w) := by
 obtain ⟨a0, cap0, hg, hp, hap⟩ := hB.box
 have hgl := hlt hg
 replace hp := Lib.hid hp
 replace hap := Lib.hid hap
 have hkt := rd_le t
 have hts : (str t).size = t.length := str_size t
 have cR := fun w => read_any (str t) w (by omega)
 rw [str_data] at cR
 obtain ⟨D, hD'⟩ : ∃ D, rd t = D := ⟨_, rfl⟩
 rw [hD'] at hkt ⊢
 have hcut := str_cut t D.2
 replace hD' := Lib.hid hD'
 replace cR := Lib.hid cR
 go_enter Try.func26, Try.ntmps26
 go_upto_region 1 with fail
 generalize hW : World.alloc (World.alloc w _) _ = W0
 have hD : W0.heap[w.heap.size]? = some (.cells (dc ⟨11, a, b, c, x⟩) 40 (0, 0)) := by rw [← hW]; exact heap_alloc2_old w _ _
 have hR : W0.heap[w.heap.size + 1]? = some (.cells (rc 0 0 (.slice none 0 0)) 44 (0, 0)) := by rw [← hW]; exact heap_alloc2_new w _ _
 have hP : W0.heap[p]? = some (.cells (bc h (.slice a0 l.length cap0) t true f n) 83 (0, 0)) := by rw [← hW]; exact hold (hold hg _) _
 have hB0 : Below w.heap.size w W0 := by rw [← hW]; exact ((Below.refl w.heap.size w).alloc (Nat.le_refl _) _).alloc (by simp) _
 clear hW hg hB
 have cP := cells_at hP
 have fP := frozenAt hP
 have hni : (n : Int) < 200 := by omega
 have en : decide ((200 : Int) ≤ (n : Int)) = false := decide_eq_false (by omega)
 have hset := hsetSame (i := 45) hP (.int .i64 ((n : Int) + 1))
 rw [bc_setActs] at hset
 replace hset := Lib.hid hset
 go_upto_region 7 with fail
 generalize hW1 : World.setCell W0 _ _ = W1
 have hP1 : W1.heap[p]? = some (.cells (bc h (.slice a0 l.length cap0) t true f ((n + 1 : Nat) : Int)) 83 (0, 0)) := by rw [← hW1]; exact hset.out
 have hD1 : W1.heap[w.heap.size]? = some (.cells (dc ⟨11, a, b, c, x⟩) 40 (0, 0)) := by rw [← hW1]; exact hsetOther hD (by omega) _
 have hR1 : W1.heap[w.heap.size + 1]? = some (.cells (rc 0 0 (.slice none 0 0)) 44 (0, 0)) := by rw [← hW1]; exact hsetOther hR (by omega) _
 have hO1 : Only (fun b => b = p) w W1 := by rw [← hW1]; exact (only_new hB0).trans (only_set p 45 _ W0)
 clear hW1 hset fP cP hP hD hR hB0 en
 have cP := cells_at hP1
 have fP := frozenAt hP1
 have cD := cells_at hD1
 have hs1 := hlt hR1
 go_upto_region 11 with (first | go_skip | (go_at_call 53; refine (cR.out _).mono ?_; rintro e w2 ⟨⟨v2, rfl, ho2⟩, hb2⟩))
 rw [hD'.out] at ho2
 obtain ⟨a4, cap4, rfl, hac, hab⟩ := ho2.at_
 have hP2 := hkeep hb2 hP1
 have hR2 := hkeep hb2 hR1
 have hO2 := hO1.more hb2
 have hs2 := hb2.size
 clear hP1 hR1 hO1 hb2 cP fP cD hD1 ho2 hab
 have hPd : w2.drew.heap[p]? = some (.cells (bc h (.slice a0 l.length cap0) t true f ((n + 1 : Nat) : Int)) 83 (0, 0)) := hP2
 have hRd : w2.drew.heap[w.heap.size + 1]? = some (.cells (rc 0 0 (.slice none 0 0)) 44 (0, 0)) := hR2
 have hacd : ActsAt w2.drew a4 cap4 D.1 := hac.below (Below.refl _ _).drew
 have hOd : Only (fun b => b = p) w w2.drew := hO2.drew
 have hsd : W1.heap.size ≤ w2.drew.heap.size := hs2
 have hcI : ∀ w' : World, w'.cell? ⟨p, 42, none⟩ = some (.string (str t)) → w'.cell? ⟨p, 42, none⟩ = some (.string (str t)) := fun _ h => h
 have hI0 : (fun w' : World => w'.cell? ⟨p, 42, none⟩ = some (.string (str t))) w2.drew := (cells_at hPd 42).trans (bc_42 _ _ _ _ _ _)
 clear hP2 hR2 hO2 hs2 hac
 replace hcI := Lib.hid hcI
 replace hacd := Lib.hid hacd
 refine wpG_start (fun w' : World => w'.cell? ⟨p, 42, none⟩ = some (.string (str t))) 16 (by kernel_rfl) ?_
 generalize World.drew w2 = wd at *
 refine wpG_put 51 (i := 0) (oi := _) (v := (.pointer (some ⟨p, 0, none⟩))) [0] rfl rfl (by kernel_rfl) (by kernel_rfl) (by kernel_rfl) (by kernel_rfl) (fun _ _ _ h => h) hI0 ?hy1 ?rs1
 case hy1 => exact Or.inl ⟨by rfl, by intro w' hb; go_simp⟩
 (try simp only [Act.put, List.setIfInBounds_toArray, List.set_cons_succ, List.set_cons_zero])
 refine wpG_put 52 (i := 1) (oi := _) (v := (.pointer (some ⟨p, 0, none⟩))) [1] rfl rfl (by kernel_rfl) (by kernel_rfl) (by kernel_rfl) (by kernel_rfl) (fun _ _ _ h => h) hI0 ?hy2 ?rs2
 case hy2 => exact Or.inl ⟨by rfl, by intro w' hb; go_simp⟩
 (try simp only [Act.put, List.setIfInBounds_toArray, List.set_cons_succ, List.set_cons_zero])
 refine wpG_putT 53 (i := 2) (oi := _) (v := (.pointer (some ⟨p, 0, none⟩))) rfl rfl (by kernel_rfl) (by kernel_rfl) (by kernel_rfl) (by kernel_rfl) (fun _ _ _ h => h) hI0 ?hy3 ?rs3
 case hy3 => exact Or.inl ⟨by rfl, by intro w' hb; go_simp⟩
 (try simp only [Act.put, List.setIfInBounds_toArray, List.set_cons_succ, List.set_cons_zero])
 refine wpG_put 54 (i := 3) (oi := _) (v := (.slice a4 D.1.length cap4)) [3] rfl rfl (by kernel_rfl) (by kernel_rfl) (by kernel_rfl) (by kernel_rfl) (fun _ _ _ h => h) hI0 ?hy4 ?rs4
 case hy4 => exact Or.inl ⟨by rfl, by intro w' hb; go_simp⟩
 (try simp only [Act.put, List.setIfInBounds_toArray, List.set_cons_succ, List.set_cons_zero])
 refine wpG_put 56 (i := 5) (oi := _) (v := (.pointer (some ⟨p, 0, none⟩))) [5] rfl rfl (by kernel_rfl) (by kernel_rfl) (by kernel_rfl) (by kernel_rfl) (fun _ _ _ h => h) hI0 ?hy5 ?rs5
 case hy5 => exact Or.inl ⟨by rfl, by intro w' hb; go_simp⟩
 (try simp only [Act.put, List.setIfInBounds_toArray, List.set_cons_succ, List.set_cons_zero])
 refine wpG_put 57 (i := 6) (oi := _) (v := (.pointer (some ⟨p, 0, none⟩))) [6] rfl rfl (by kernel_rfl) (by kernel_rfl) (by kernel_rfl) (by kernel_rfl) (fun _ _ _ h => h) hI0 ?hy6 ?rs6
 case hy6 => exact Or.inl ⟨by rfl, by intro w' hb; go_simp⟩
 (try simp only [Act.put, List.setIfInBounds_toArray, List.set_cons_succ, List.set_cons_zero])
 refine wpG_put 58 (i := 7) (oi := _) (v := (.pointer (some ⟨p, 42, none⟩))) [7] rfl rfl (by kernel_rfl) (by kernel_rfl) (by kernel_rfl) (by kernel_rfl) (fun _ _ _ h => h) hI0 ?hy7 ?rs7
 case hy7 => exact Or.inl ⟨by rfl, by intro w' hb; go_simp⟩
 (try simp only [Act.put, List.setIfInBounds_toArray, List.set_cons_succ, List.set_cons_zero])
 refine wpG_put 59 (i := 8) (oi := _) (v := (.string (str t))) [8] rfl rfl (by kernel_rfl) (by kernel_rfl) (by kernel_rfl) (by kernel_rfl) (fun _ _ _ h => h) hI0 ?hy8 ?rs8
 case hy8 => exact Or.inl ⟨by rfl, by intro w' hb; have c1 := hcI.out w' hb; go_simp⟩
 (try simp only [Act.put, List.setIfInBounds_toArray, List.set_cons_succ, List.set_cons_zero])
 refine wpG_put 60 (i := 9) (oi := _) (v := (.int .i64 ((D.2 : Nat) : Int))) [9] rfl rfl (by kernel_rfl) (by kernel_rfl) (by kernel_rfl) (by kernel_rfl) (fun _ _ _ h => h) hI0 ?hy9 ?rs9
 case hy9 => exact Or.inl ⟨by rfl, by intro w' hb; go_simp; rw [hD'.out]⟩
 (try simp only [Act.put, List.setIfInBounds_toArray, List.set_cons_succ, List.set_cons_zero])
 refine wpG_put 61 (i := 10) (oi := _) (v := (.string (str (t.take D.2)))) [10] rfl rfl (by kernel_rfl) (by kernel_rfl) (by kernel_rfl) (by kernel_rfl) (fun _ _ _ h => h) hI0 ?hy10 ?rs10
 case hy10 => exact Or.inl ⟨by rfl, by intro w' hb; go_simp⟩
 (try simp only [Act.put, List.setIfInBounds_toArray, List.set_cons_succ, List.set_cons_zero])
 clear hI0
 refine wpG_one (i := 4) (by kernel_rfl) rfl ?_
 go_wp2_with (first | go_skip | (go_at_call 31; refine (replay_any D.1 a4 cap4 _ hacd.out).mono ?_; rintro e w3 ⟨⟨a5, cap5, rfl, hp5, hs5⟩, hb3⟩))
 have hP3 := hkeep hb3 hPd
 have hR3 := hkeep hb3 hRd
 have hO3 := hOd.more hb3
 have h3s := hb3.size
 clear hPd hRd hOd hb3
 obtain ⟨S, hS⟩ : ∃ S, replayL D.1 = S := ⟨_, rfl⟩
 rw [hS] at hp5 hs5
 replace hS := Lib.hid hS
 have hI3 : (fun w' : World => w'.cell? ⟨p, 42, none⟩ = some (.string (str t))) w3 := (cells_at hP3 42).trans (bc_42 _ _ _ _ _ _)
 replace hs5 := Lib.hid hs5
 refine ⟨hI3, ?_⟩
 (try simp only [Act.put, List.setIfInBounds_toArray, List.set_cons_succ, List.set_cons_zero])
 refine wpG_one (i := 11) (by kernel_rfl) rfl ?_
 go_wp2_with fail
 refine ⟨hI3, ?_⟩
 (try simp only [Act.put, List.setIfInBounds_toArray, List.set_cons_succ, List.set_cons_zero])
 refine wpG_one (i := 12) (by kernel_rfl) rfl ?_
 go_wp2_with fail
 refine ⟨hI3, ?_⟩
 (try simp only [Act.put, List.setIfInBounds_toArray, List.set_cons_succ, List.set_cons_zero])
 refine wpG_one (i := 13) (by kernel_rfl) rfl ?_
 go_wp2_with (first | go_skip | (refine st_head 29 _ _ rfl rfl p rfl (hc S.1 (.slice a5 S.2.length cap5)) (by rw [← hS.out]; rfl) 83 _ _ hP3 info30 (by rw [bc_size, hc_size]; omega) (bc_head _ _ _ _ _ _ _ _) (hc_one _ _ rfl) ?_; intro wa hra hgra hsza))
 have hIa : (fun w' : World => w'.cell? ⟨p, 42, none⟩ = some (.string (str t))) wa := (cells_at hra 42).trans (bc_42 _ _ _ _ _ _)
 have hRa := (hgra.block _ (hlt hR3) (by simp; omega)).trans hR3
 have hOa := hO3.step (only_grown hgra) fun b e => by cases e; exact .inl rfl
 have hpa := payN hp5 hgra fun hl b off s e => by have := hs5.out hl b off s e; omega
 clear hR3 hO3 hp5 hP3 hgra hI3
 refine ⟨hIa, ?_⟩
 (try simp only [Act.put, List.setIfInBounds_toArray, List.set_cons_succ, List.set_cons_zero])
 refine wpG_one (i := 14) (by kernel_rfl) rfl ?_
 go_wp2_with fail
 refine ⟨hIa, ?_⟩
 (try simp only [Act.put, List.setIfInBounds_toArray, List.set_cons_succ, List.set_cons_zero])
 refine wpG_one (i := 15) (by kernel_rfl) rfl ?_
 go_wp2_with fail
 refine ⟨hIa, ?_⟩
 (try simp only [Act.put, List.setIfInBounds_toArray, List.set_cons_succ, List.set_cons_zero])
 refine wpG_drop 16 rfl (by kernel_rfl) ?_
 simp only [List.drop_succ_cons, List.drop_zero]
 clear hIa
 have cP := cells_at hra
 have fP := frozenAt hra
 have hset := hsetSame (i := 42) hra (.string (str (t.take D.2)))
 rw [bc_setText] at hset
 have hset2 := hsetSame (i := 43) hset (.bool false)
 rw [bc_setDown] at hset2
 replace hset := Lib.hid hset
 replace hset2 := Lib.hid hset2
 go_upto_region 12 with fail
 generalize hW4 : World.setCell (World.setCell wa _ _) _ _ = W4
 have hP4 : W4.heap[p]? = some (.cells (bc S.1 (.slice a5 S.2.length cap5) (t.take D.2) false f ((n + 1 : Nat) : Int)) 83 (0, 0)) := by rw [← hW4]; exact hset2.out
 have hR4 : W4.heap[w.heap.size + 1]? = some (.cells (rc 0 0 (.slice none 0 0)) 44 (0, 0)) := by rw [← hW4]; exact hsetOther (hsetOther hRa (by omega) _) (by omega) _
 have hO4 : Only (fun b => b = p) w W4 := by rw [← hW4]; exact (hOa.trans (only_set p 42 _ wa)).trans (only_set p 43 _ _)
 have hp4 : PaysAt W4 a5 cap5 S.2 := by rw [← hW4]; exact (only_set p 43 _ _).pays ((only_set p 42 _ wa).pays hpa fun hl b off s e => by have := hs5.out hl b off s e; omega) fun hl b off s e => by have := hs5.out hl b off s e; omega
 clear hW4 hset hset2 cP fP hra hRa hOa hpa
 go_wp2_with (first | go_skip | (refine st_row 44 _ _ rfl rfl _ rfl (rc 0 (D.1.length : Int) (.slice none 0 0)) rfl _ _ hR4 infoRp rfl (rc_one _ _ _ rfl) ?_; intro wb hrb hgrb hszb))
 refine bodyPost_ret (results_cell_row rfl _ _ _ 44 _ (0, 0) _ rfl hrb Try.underlying44 rfl infoRp) rfl ?_
 rw [hS.out]
 exact do_end rfl (OwnInts.nil _ _) ((hgrb.block p (hlt hP4) (by simp; omega)).trans hP4) (payN hp4 hgrb fun hl b off s e => by have := hs5.out hl b off s e; omega) (fun hl b off s e => by have := hs5.out hl b off s e; exact ⟨by omega, fun hx => by have := hav b hx; omega, by simp [Value.ownBlock]⟩) (hO4.step (only_grown hgrb) fun b e => by cases e; right; omega)
end Go.Proofs.Ytggfdkkhlokmlab


