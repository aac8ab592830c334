/- bank.Next whole. -/
import Derived.Test.YtggfdkkhlokmlabNextAny
import Derived.Test.YtggfdkkhlokmlabAppendI
import Derived.Test.YtggfdkkhlokmlabPool
set_option linter.unusedSimpArgs false
namespace Go.Proofs.Ytggfdkkhlokmlab
open Go.RowKit
attribute [local go_sem] hc_pays hc_next hc_size rc_0 rc_1 rc_2 rc_size dc_0 dc_1 dc_2 dc_3 dc_4 dc_size
/-- A house and an answer: the payments lie where they lay, or in a new block; nothing that was there is written. -/
def NextsPost (a0 : Option Addr) (X : Nx) (w : World) (e : Ending) (w' : World) : Prop :=
 (∃ a cap v, e = .returned (.tuple #[.agg (hc X.h (.slice a X.l.length cap)), .agg (rc X.code X.n v)]) ∧ PaysAt w' a cap X.l ∧ OwnInts w' w.heap.size v (nats X.done) ∧ (0 < X.l.length → ∀ b off s, a = some ⟨b, off, s⟩ → ((a = a0 ∧ X.code ≠ 0) ∨ w.heap.size ≤ b) ∧ v.ownBlock ≠ some b)) ∧ Below w.heap.size w w'
theorem nodup_le {d : List Nat} {n : Nat} (hn : d.Nodup) (hl : ∀ i ∈ d, i < n) : d.length ≤ n := by
 have h : d.Perm ((List.range n).filter fun i => decide (i ∈ d)) := (List.perm_ext_iff_of_nodup hn (List.nodup_range.filter _)).2 fun i => by
  simp only [List.mem_filter, List.mem_range, decide_eq_true_eq]
  exact ⟨fun h => ⟨hl i h, h⟩, fun h => h.2⟩
 rw [h.length_eq]
 exact Nat.le_trans (List.length_filter_le _ _) (by simp)
theorem ext_le {l l' : List Pay} {d : List Nat} (e : Ext l l' d) : d.length ≤ l.length := nodup_le e.nodup e.lt
def SmallNx (l : List Pay) (x : Nx) : Prop := x.done.length ≤ l.length ∧ x.l.length ≤ l.length + 1
theorem mid_small (h : Hs) (l : List Pay) (a : Deed) : SmallNx l (midL h l a) := by
 unfold midL
 have he : ∀ c : Int, SmallNx l (Nx.err h l c) := fun c => ⟨by simp [Nx.err], by simp [Nx.err]⟩
 repeat' (refine iteInduction (fun _ => ?_) (fun _ => ?_))
 all_goals first | exact he _ | exact ⟨ext_le (untie_ext h l), by rw [(untie_ext h l).len]; omega⟩ | exact ⟨by simp, by simp⟩
theorem nats_app (d e : List Nat) : nats (d ++ e) = nats d ++ nats e := by simp [nats]
/-- Behind the two last stores. -/
theorem nexts_end {a0 : Option Addr} {w wn wa wb : World} {X : Nx} {a : Option Addr} {cap : Nat} {v : Value} {e : Ending} (he : e = .returned (.tuple #[.agg (hc X.h (.slice a X.l.length cap)), .agg (rc X.code X.n v)])) (hB : Below w.heap.size w wn)
  (hga : wn.grownBy wa (some (w.heap.size + 2))) (hgb : wa.grownBy wb (some (w.heap.size + 3))) (hp : PaysAt wn a cap X.l) (hap : 0 < X.l.length → ∀ b off s, a = some ⟨b, off, s⟩ → ((a = a0 ∧ X.code ≠ 0) ∨ w.heap.size ≤ b) ∧ b ≠ w.heap.size + 2 ∧ b ≠ w.heap.size + 3 ∧ v.ownBlock ≠ some b)
  (ho : OwnInts wn w.heap.size v (nats X.done)) (hvo : ∀ x, v.ownBlock = some x → x ≠ w.heap.size + 2 ∧ x ≠ w.heap.size + 3) : NextsPost a0 X w e wb := by
 have h1 := payN hp hga fun hl b off s e => (hap hl b off s e).2.1
 have h2 := payN h1 hgb fun hl b off s e => (hap hl b off s e).2.2.1
 have h3 := ho.grownN hga fun x hx => (hvo x hx).1
 have h4 := h3.grownN hgb fun x hx => (hvo x hx).2
 exact ⟨⟨a, cap, v, he, h2, h4, fun hl b off s e => ⟨(hap hl b off s e).1, (hap hl b off s e).2.2.2⟩⟩, (((only_new (av := fun _ => False) hB).step (only_grown hga) fun b e => by cases e; right; omega).step (only_grown hgb) fun b e => by cases e; right; omega).below (Nat.le_refl _) (fun _ h => h.elim)⟩
set_option maxRecDepth 100000 in
set_option maxHeartbeats 1000000 in
theorem nexts_bad (h : Hs) (l : List Pay) (a0 : Option Addr) (cap0 : Nat) (d : Deed) (w : World) (hp : PaysAt w a0 cap0 l) (hgb : goodB h l = false) :
  Calls Try.prog 34 #[.agg (hc h (.slice a0 l.length cap0)), .agg (dc d)] w (NextsPost a0 (.err h l 1) w) := by
 have hpl : 0 < l.length → ∀ b off s, a0 = some ⟨b, off, s⟩ → b < w.heap.size := fun hl b off s e => by
  obtain ⟨b', off', e', hbl, _⟩ := hp.row hl
  rw [e] at e'; cases e'; exact hbl
 replace hgb := Lib.hid hgb
 replace hp := Lib.hid hp
 replace hpl := Lib.hid hpl
 go_enter Try.func34, Try.ntmps34
 go_upto_region 1 with fail
 generalize hW : World.alloc (World.alloc (World.alloc (World.alloc w _) _) _) _ = W0
 obtain ⟨hA, hD, hH, hR, hB⟩ : W0.heap[w.heap.size]? = some (.cells (hc h (.slice a0 l.length cap0)) 29 (0, 0)) ∧ W0.heap[w.heap.size + 1]? = some (.cells (dc d) 40 (0, 0)) ∧ W0.heap[w.heap.size + 2]? = some (.cells (hc Hs.zero (.slice none 0 0)) 29 (0, 0)) ∧ W0.heap[w.heap.size + 3]? = some (.cells (rc 0 0 (.slice none 0 0)) 44 (0, 0)) ∧ Below w.heap.size w W0 := by rw [← hW]; exact four4 w _ _ _ _
 have hp0 := hp.out.below hB
 have hsz : w.heap.size + 4 = W0.heap.size := by rw [← hW]; simp
 clear hW
 go_wp2_with (first | go_skip | (refine ld_row 29 _ rfl rfl _ rfl _ _ _ _ hA Try.underlying29 rfl info30 ?_) | (go_at_call 15; refine (good_any h l _ cap0 _ hp0).mono ?_; rintro e w1 ⟨rfl, hb1⟩; rw [hgb.out]) | (refine ld_row 29 _ rfl rfl _ rfl _ _ _ _ (hkeep hb1 hA) Try.underlying29 rfl info30 ?_) | (refine st_row 29 _ _ rfl rfl _ rfl _ rfl _ _ (hkeep hb1 hH) info30 rfl (hc_one _ _ rfl) ?_; intro wa hra hgra hsza) | (refine st_row 44 _ _ rfl rfl _ rfl (rc 1 0 (.slice none 0 0)) rfl _ _ ((hgra.block _ (hlt (hkeep hb1 hR)) (by simp)).trans (hkeep hb1 hR)) infoRp rfl (rc_one _ _ _ rfl) ?_; intro wb hrb hgrb hszb))
 exact bodyPost_ret (results_hr rfl _ _ _ _ _ _ _ _ _ rfl rfl ((hgrb.block _ (hlt hra) (by simp)).trans hra) hrb) rfl (nexts_end (X := .err h l 1) rfl (bstep hB hB.size hb1) hgra hgrb (hp0.below hb1) (fun hl b off s e => ⟨.inl ⟨rfl, by simp [Nx.err]⟩, by have := hpl.out hl b off s e; omega, by have := hpl.out hl b off s e; omega, by simp [Value.ownBlock]⟩) (OwnInts.nil _ _) (fun x hx => by simp [Value.ownBlock] at hx))
set_option maxRecDepth 100000 in
set_option maxHeartbeats 8000000 in
theorem nexts_good (h : Hs) (l : List Pay) (a0 : Option Addr) (cap0 : Nat) (d : Deed) (w : World) (hp : PaysAt w a0 cap0 l) (g : GoodP h l) (hgb : goodB h l = true) :
  Calls Try.prog 34 #[.agg (hc h (.slice a0 l.length cap0)), .agg (dc d)] w (NextsPost a0 (endL d.kind h l (midL h l d)) w) := by
 have hpl : 0 < l.length → ∀ b off s, a0 = some ⟨b, off, s⟩ → b < w.heap.size := fun hl b off s e => by
  obtain ⟨b', off', e', hbl, _⟩ := hp.row hl
  rw [e] at e'; cases e'; exact hbl
 have cN := fun v1 w ho => next_any h l v1 d w ho g
 obtain ⟨M, hM⟩ : ∃ M, midL h l d = M := ⟨_, rfl⟩
 rw [hM] at cN ⊢
 replace hM := Lib.hid hM
 replace hgb := Lib.hid hgb
 replace hp := Lib.hid hp
 replace hpl := Lib.hid hpl
 replace cN : RowKit.Hid (∀ (v1 : Value) (w1 : World) {n : Nat}, OwnPays w1 n v1 l → Calls Try.prog 61 #[.agg (hc h v1), .agg (dc d)] w1 (NextPost v1 M w1)) := Lib.hid fun v1 w1 _ ho => cN v1 w1 (ho.mono (Nat.zero_le _))
 go_enter Try.func34, Try.ntmps34
 go_upto_region 1 with fail
 generalize hW : World.alloc (World.alloc (World.alloc (World.alloc w _) _) _) _ = W0
 obtain ⟨hA, hD, hH, hR, hB⟩ : W0.heap[w.heap.size]? = some (.cells (hc h (.slice a0 l.length cap0)) 29 (0, 0)) ∧ W0.heap[w.heap.size + 1]? = some (.cells (dc d) 40 (0, 0)) ∧ W0.heap[w.heap.size + 2]? = some (.cells (hc Hs.zero (.slice none 0 0)) 29 (0, 0)) ∧ W0.heap[w.heap.size + 3]? = some (.cells (rc 0 0 (.slice none 0 0)) 44 (0, 0)) ∧ Below w.heap.size w W0 := by rw [← hW]; exact four4 w _ _ _ _
 have hp0 := hp.out.below hB
 have hsz : w.heap.size + 4 = W0.heap.size := by rw [← hW]; simp
 clear hW
 go_upto_region 3 with (first | go_skip | (refine ld_row 29 _ rfl rfl _ rfl _ _ _ _ hA Try.underlying29 rfl info30 ?_) | (go_at_call 15; refine (good_any h l _ cap0 _ hp0).mono ?_; rintro e w1 ⟨rfl, hb1⟩; rw [hgb.out]))
 replace hA := hkeep hb1 hA
 replace hD := hkeep hb1 hD
 replace hH := hkeep hb1 hH
 replace hR := hkeep hb1 hR
 replace hp0 := hp0.below hb1
 have hsz1 : w.heap.size + 4 ≤ w1.heap.size := by have := hb1.size; omega
 replace hB := bstep hB hB.size hb1
 clear hb1 hsz
 generalize w1 = W0 at *
 have cC : ∀ wx : World, Below W0.heap.size W0 wx → Calls Try.prog 51 #[.agg (hc h (.slice a0 l.length cap0))] wx (CopiedPost h l wx) := fun wx hb => copied_any h l a0 cap0 wx (hp0.below hb)
 replace cC := Lib.hid cC
 go_cut [6, 7] (fun s6 s7 wx => ∃ x y a1 cap1 v, s6 = .pointer (some ⟨x, 0, none⟩) ∧ s7 = .pointer (some ⟨y, 0, none⟩) ∧ Two (fun _ => False) W0 wx x y M a1 cap1 v)
 case first =>
  refine wpG_start (Below W0.heap.size W0) 10 (by kernel_rfl) ?_
  have hPl : Pool W0 W0.drew [] := Pool.start W0
  refine wpG_put 15 (i := 0) (oi := _) (v := (.agg (hc h (.slice a0 l.length cap0)))) [0] rfl rfl (by kernel_rfl) (by kernel_rfl) (by kernel_rfl) (by kernel_rfl) (fun _ _ _ h => h) hPl.low ?hy1 ?rs1
  case hy1 => exact yields_row 29 _ rfl rfl _ rfl _ _ _ _ (fun w' hb => hkeep hb hA) Try.underlying29 rfl info30
  (try simp only [Act.put, List.setIfInBounds_toArray, List.set_cons_succ, List.set_cons_zero])
  refine wpG_put 17 (i := 2) (oi := _) (v := (.agg (dc d))) [2] rfl rfl (by kernel_rfl) (by kernel_rfl) (by kernel_rfl) (by kernel_rfl) (fun _ _ _ h => h) hPl.low ?hy2 ?rs2
  case hy2 => exact yields_row 40 _ rfl rfl _ rfl _ _ _ _ (fun w' hb => hkeep hb hD) Try.underlying40 rfl info44
  (try simp only [Act.put, List.setIfInBounds_toArray, List.set_cons_succ, List.set_cons_zero])
  generalize World.drew W0 = wd at *
  refine wpG_three (i := 1) (j := 7) (k := 8) (by kernel_rfl) rfl rfl rfl ?_ ?_ ?_
  ·have hsw := hPl.low.size
   go_wp2_with (first | go_skip | (go_at_call 51; refine (cC.out wd hPl.low).mono ?_; rintro e w1 ⟨⟨v1, rfl, hown⟩, hb1⟩))
   replace hPl := hPl.below hb1
   have hOw : RowKit.Hid (OwnPays w1 W0.heap.size v1 l) := Lib.hid (hown.mono hsw)
   clear hown hb1 hsw
   refine ⟨hPl.low, ?_⟩
   (try simp only [Act.put, List.setIfInBounds_toArray, List.set_cons_succ, List.set_cons_zero])
   refine wpG_three (i := 3) (j := 7) (k := 8) (by kernel_rfl) rfl rfl rfl ?_ ?_ ?_
   ·go_wp2_with (first | go_skip | (go_at_call 61; refine (cN.out v1 w1 hOw.out).mono ?_; rintro e w2 ⟨⟨a1, cap1, v, rfl, hp1, ho1, hs1⟩, hO1⟩))
    have hpr := NextPost.res hPl hOw.out (by simp) hp1 ho1 hs1 hO1
    replace hPl := hpr.1
    have hRs := hpr.2
    have hv1 : v.oneCell' = true := ho1.one
    clear hpr hOw hp1 ho1 hs1 hO1
    refine ⟨hPl.low, ?_⟩
    (try simp only [Act.put, List.setIfInBounds_toArray, List.set_cons_succ, List.set_cons_zero])
    refine wpG_put 14 (i := 4) (oi := _) (v := (.tuple #[.agg (hc M.h (.slice a1 M.l.length cap1)), .agg (rc M.code M.n v)])) [4] rfl rfl (by kernel_rfl) (by kernel_rfl) (by kernel_rfl) (by kernel_rfl) (fun _ _ _ h => h) hPl.low ?hy3 ?rs3
    case hy3 => exact Or.inl ⟨by rfl, by intro w' hb; go_simp⟩
    (try simp only [Act.put, List.setIfInBounds_toArray, List.set_cons_succ, List.set_cons_zero])
    refine wpG_put 19 (i := 5) (oi := _) (v := (.agg (hc M.h (.slice a1 M.l.length cap1)))) [5] rfl rfl (by kernel_rfl) (by kernel_rfl) (by kernel_rfl) (by kernel_rfl) (fun _ _ _ h => h) hPl.low ?hy4 ?rs4
    case hy4 => exact Or.inl ⟨by rfl, by intro w' hb; go_simp⟩
    (try simp only [Act.put, List.setIfInBounds_toArray, List.set_cons_succ, List.set_cons_zero])
    refine wpG_put 20 (i := 6) (oi := _) (v := (.agg (rc M.code M.n v))) [6] rfl rfl (by kernel_rfl) (by kernel_rfl) (by kernel_rfl) (by kernel_rfl) (fun _ _ _ h => h) hPl.low ?hy5 ?rs5
    case hy5 => exact Or.inl ⟨by rfl, by intro w' hb; go_simp⟩
    (try simp only [Act.put, List.setIfInBounds_toArray, List.set_cons_succ, List.set_cons_zero])
    refine wpG_two (i := 7) (j := 8) (by kernel_rfl) rfl rfl ?_ ?_
    ·go_wp2_with (first | go_skip)
     generalize hY : World.alloc w2 _ = w3
     replace hPl : Pool W0 w3 [(w2.heap.size, .cells (hc Hs.zero (.slice none 0 0)) 29 (0, 0))] := by rw [← hY]; exact hPl.alloc (.cells (hc Hs.zero (.slice none 0 0)) 29)
     replace hRs : Res (fun _ => False) W0 w3 [(w2.heap.size, .cells (hc Hs.zero (.slice none 0 0)) 29 (0, 0))] (M) a1 cap1 v := by rw [← hY]; exact hRs.alloc (.cells (hc Hs.zero (.slice none 0 0)) 29)
     clear hY
     refine ⟨hPl.low, ?_⟩
     (try simp only [Act.put, List.setIfInBounds_toArray, List.set_cons_succ, List.set_cons_zero])
     refine wpG_one (i := 8) (by kernel_rfl) rfl ?_
     go_wp2_with (first | go_skip)
     generalize hY : World.alloc w3 _ = w4
     replace hPl : Pool W0 w4 [(w3.heap.size, .cells (rc 0 0 (.slice none 0 0)) 44 (0, 0)), (w2.heap.size, .cells (hc Hs.zero (.slice none 0 0)) 29 (0, 0))] := by rw [← hY]; exact hPl.alloc (.cells (rc 0 0 (.slice none 0 0)) 44)
     replace hRs : Res (fun _ => False) W0 w4 [(w3.heap.size, .cells (rc 0 0 (.slice none 0 0)) 44 (0, 0)), (w2.heap.size, .cells (hc Hs.zero (.slice none 0 0)) 29 (0, 0))] (M) a1 cap1 v := by rw [← hY]; exact hRs.alloc (.cells (rc 0 0 (.slice none 0 0)) 44)
     clear hY
     refine ⟨hPl.low, ?_⟩
     (try simp only [Act.put, List.setIfInBounds_toArray, List.set_cons_succ, List.set_cons_zero])
     replace hPl := hPl.swap
     replace hRs := hRs.swap
     have hx := (hPl.box (w2.heap.size, .cells (hc Hs.zero (.slice none 0 0)) 29 (0, 0)) (by simp)).2
     have hy := (hPl.box (w3.heap.size, .cells (rc 0 0 (.slice none 0 0)) 44 (0, 0)) (by simp)).2
     have hxy : w2.heap.size ≠ w3.heap.size := by have := hPl.nodup; simp only [List.map_cons, List.map_nil, List.nodup_cons, List.mem_singleton, List.not_mem_nil, not_false_eq_true, List.nodup_nil, and_true] at this; exact this
     refine wpG_one (i := 9) (by kernel_rfl) rfl ?_
     go_wp2_with (first | go_skip | (refine st_row 29 _ _ rfl rfl _ rfl _ rfl _ _ hx info30 rfl (hc_one _ _ rfl) ?_; intro wa hra hgra hsza))
     refine ⟨(({ hPl with box := by simp, nodup := by simp } : Pool W0 w4 []).only (by exact only_grown hgra) (fun b e => by cases e; exact (hPl.box (w2.heap.size, .cells (hc Hs.zero (.slice none 0 0)) 29 (0, 0)) (by simp)).1) (by simp)).low, ?_⟩
     (try simp only [Act.put, List.setIfInBounds_toArray, List.set_cons_succ, List.set_cons_zero])
     refine wpG_drop 10 rfl (by kernel_rfl) ?_
     simp only [List.drop_succ_cons, List.drop_zero]
     go_wp2_with (first | go_skip | (refine st_row 44 _ _ rfl rfl _ rfl (rc (M).code (M).n v) rfl _ _ ((hgra.block _ (hlt hy) (by simpa using Ne.symm hxy)).trans hy) infoRp rfl (rc_one _ _ _ hv1) ?_; intro wb hrb hgrb hszb))
     go_meet
     case rel => exact ⟨w2.heap.size, w3.heap.size, a1, cap1, v, rfl, rfl, two_of hPl hRs hgra hra hgrb hrb⟩
    ·go_wp2_with (first | go_skip)
     generalize hY : World.alloc w2 _ = w5
     replace hPl : Pool W0 w5 [(w2.heap.size, .cells (rc 0 0 (.slice none 0 0)) 44 (0, 0))] := by rw [← hY]; exact hPl.alloc (.cells (rc 0 0 (.slice none 0 0)) 44)
     replace hRs : Res (fun _ => False) W0 w5 [(w2.heap.size, .cells (rc 0 0 (.slice none 0 0)) 44 (0, 0))] (M) a1 cap1 v := by rw [← hY]; exact hRs.alloc (.cells (rc 0 0 (.slice none 0 0)) 44)
     clear hY
     refine ⟨hPl.low, ?_⟩
     (try simp only [Act.put, List.setIfInBounds_toArray, List.set_cons_succ, List.set_cons_zero])
     refine wpG_one (i := 7) (by kernel_rfl) rfl ?_
     go_wp2_with (first | go_skip)
     generalize hY : World.alloc w5 _ = w6
     replace hPl : Pool W0 w6 [(w5.heap.size, .cells (hc Hs.zero (.slice none 0 0)) 29 (0, 0)), (w2.heap.size, .cells (rc 0 0 (.slice none 0 0)) 44 (0, 0))] := by rw [← hY]; exact hPl.alloc (.cells (hc Hs.zero (.slice none 0 0)) 29)
     replace hRs : Res (fun _ => False) W0 w6 [(w5.heap.size, .cells (hc Hs.zero (.slice none 0 0)) 29 (0, 0)), (w2.heap.size, .cells (rc 0 0 (.slice none 0 0)) 44 (0, 0))] (M) a1 cap1 v := by rw [← hY]; exact hRs.alloc (.cells (hc Hs.zero (.slice none 0 0)) 29)
     clear hY
     refine ⟨hPl.low, ?_⟩
     (try simp only [Act.put, List.setIfInBounds_toArray, List.set_cons_succ, List.set_cons_zero])
     have hx := (hPl.box (w5.heap.size, .cells (hc Hs.zero (.slice none 0 0)) 29 (0, 0)) (by simp)).2
     have hy := (hPl.box (w2.heap.size, .cells (rc 0 0 (.slice none 0 0)) 44 (0, 0)) (by simp)).2
     have hxy : w5.heap.size ≠ w2.heap.size := by have := hPl.nodup; simp only [List.map_cons, List.map_nil, List.nodup_cons, List.mem_singleton, List.not_mem_nil, not_false_eq_true, List.nodup_nil, and_true] at this; exact this
     refine wpG_one (i := 9) (by kernel_rfl) rfl ?_
     go_wp2_with (first | go_skip | (refine st_row 29 _ _ rfl rfl _ rfl _ rfl _ _ hx info30 rfl (hc_one _ _ rfl) ?_; intro wa hra hgra hsza))
     refine ⟨(({ hPl with box := by simp, nodup := by simp } : Pool W0 w6 []).only (by exact only_grown hgra) (fun b e => by cases e; exact (hPl.box (w5.heap.size, .cells (hc Hs.zero (.slice none 0 0)) 29 (0, 0)) (by simp)).1) (by simp)).low, ?_⟩
     (try simp only [Act.put, List.setIfInBounds_toArray, List.set_cons_succ, List.set_cons_zero])
     refine wpG_drop 10 rfl (by kernel_rfl) ?_
     simp only [List.drop_succ_cons, List.drop_zero]
     go_wp2_with (first | go_skip | (refine st_row 44 _ _ rfl rfl _ rfl (rc (M).code (M).n v) rfl _ _ ((hgra.block _ (hlt hy) (by simpa using Ne.symm hxy)).trans hy) infoRp rfl (rc_one _ _ _ hv1) ?_; intro wb hrb hgrb hszb))
     go_meet
     case rel => exact ⟨w5.heap.size, w2.heap.size, a1, cap1, v, rfl, rfl, two_of hPl hRs hgra hra hgrb hrb⟩
   ·go_wp2_with (first | go_skip)
    generalize hY : World.alloc w1 _ = w7
    replace hPl : Pool W0 w7 [(w1.heap.size, .cells (hc Hs.zero (.slice none 0 0)) 29 (0, 0))] := by rw [← hY]; exact hPl.alloc (.cells (hc Hs.zero (.slice none 0 0)) 29)
    replace hOw : RowKit.Hid (OwnPays w7 W0.heap.size v1 l) := Lib.hid (by rw [← hY]; exact hOw.out.below ((Below.refl _ _).alloc (Nat.le_refl _) (.cells (hc Hs.zero (.slice none 0 0)) 29)))
    clear hY
    refine ⟨hPl.low, ?_⟩
    (try simp only [Act.put, List.setIfInBounds_toArray, List.set_cons_succ, List.set_cons_zero])
    refine wpG_two (i := 3) (j := 8) (by kernel_rfl) rfl rfl ?_ ?_
    ·go_wp2_with (first | go_skip | (go_at_call 61; refine (cN.out v1 w7 hOw.out).mono ?_; rintro e w8 ⟨⟨a1, cap1, v, rfl, hp1, ho1, hs1⟩, hO1⟩))
     have hpr := NextPost.res hPl hOw.out (by simp) hp1 ho1 hs1 hO1
     replace hPl := hpr.1
     have hRs := hpr.2
     have hv1 : v.oneCell' = true := ho1.one
     clear hpr hOw hp1 ho1 hs1 hO1
     refine ⟨hPl.low, ?_⟩
     (try simp only [Act.put, List.setIfInBounds_toArray, List.set_cons_succ, List.set_cons_zero])
     refine wpG_put 14 (i := 4) (oi := _) (v := (.tuple #[.agg (hc M.h (.slice a1 M.l.length cap1)), .agg (rc M.code M.n v)])) [4] rfl rfl (by kernel_rfl) (by kernel_rfl) (by kernel_rfl) (by kernel_rfl) (fun _ _ _ h => h) hPl.low ?hy6 ?rs6
     case hy6 => exact Or.inl ⟨by rfl, by intro w' hb; go_simp⟩
     (try simp only [Act.put, List.setIfInBounds_toArray, List.set_cons_succ, List.set_cons_zero])
     refine wpG_put 19 (i := 5) (oi := _) (v := (.agg (hc M.h (.slice a1 M.l.length cap1)))) [5] rfl rfl (by kernel_rfl) (by kernel_rfl) (by kernel_rfl) (by kernel_rfl) (fun _ _ _ h => h) hPl.low ?hy7 ?rs7
     case hy7 => exact Or.inl ⟨by rfl, by intro w' hb; go_simp⟩
     (try simp only [Act.put, List.setIfInBounds_toArray, List.set_cons_succ, List.set_cons_zero])
     refine wpG_put 20 (i := 6) (oi := _) (v := (.agg (rc M.code M.n v))) [6] rfl rfl (by kernel_rfl) (by kernel_rfl) (by kernel_rfl) (by kernel_rfl) (fun _ _ _ h => h) hPl.low ?hy8 ?rs8
     case hy8 => exact Or.inl ⟨by rfl, by intro w' hb; go_simp⟩
     (try simp only [Act.put, List.setIfInBounds_toArray, List.set_cons_succ, List.set_cons_zero])
     refine wpG_one (i := 8) (by kernel_rfl) rfl ?_
     go_wp2_with (first | go_skip)
     generalize hY : World.alloc w8 _ = w9
     replace hPl : Pool W0 w9 [(w8.heap.size, .cells (rc 0 0 (.slice none 0 0)) 44 (0, 0)), (w1.heap.size, .cells (hc Hs.zero (.slice none 0 0)) 29 (0, 0))] := by rw [← hY]; exact hPl.alloc (.cells (rc 0 0 (.slice none 0 0)) 44)
     replace hRs : Res (fun _ => False) W0 w9 [(w8.heap.size, .cells (rc 0 0 (.slice none 0 0)) 44 (0, 0)), (w1.heap.size, .cells (hc Hs.zero (.slice none 0 0)) 29 (0, 0))] (M) a1 cap1 v := by rw [← hY]; exact hRs.alloc (.cells (rc 0 0 (.slice none 0 0)) 44)
     clear hY
     refine ⟨hPl.low, ?_⟩
     (try simp only [Act.put, List.setIfInBounds_toArray, List.set_cons_succ, List.set_cons_zero])
     replace hPl := hPl.swap
     replace hRs := hRs.swap
     have hx := (hPl.box (w1.heap.size, .cells (hc Hs.zero (.slice none 0 0)) 29 (0, 0)) (by simp)).2
     have hy := (hPl.box (w8.heap.size, .cells (rc 0 0 (.slice none 0 0)) 44 (0, 0)) (by simp)).2
     have hxy : w1.heap.size ≠ w8.heap.size := by have := hPl.nodup; simp only [List.map_cons, List.map_nil, List.nodup_cons, List.mem_singleton, List.not_mem_nil, not_false_eq_true, List.nodup_nil, and_true] at this; exact this
     refine wpG_one (i := 9) (by kernel_rfl) rfl ?_
     go_wp2_with (first | go_skip | (refine st_row 29 _ _ rfl rfl _ rfl _ rfl _ _ hx info30 rfl (hc_one _ _ rfl) ?_; intro wa hra hgra hsza))
     refine ⟨(({ hPl with box := by simp, nodup := by simp } : Pool W0 w9 []).only (by exact only_grown hgra) (fun b e => by cases e; exact (hPl.box (w1.heap.size, .cells (hc Hs.zero (.slice none 0 0)) 29 (0, 0)) (by simp)).1) (by simp)).low, ?_⟩
     (try simp only [Act.put, List.setIfInBounds_toArray, List.set_cons_succ, List.set_cons_zero])
     refine wpG_drop 10 rfl (by kernel_rfl) ?_
     simp only [List.drop_succ_cons, List.drop_zero]
     go_wp2_with (first | go_skip | (refine st_row 44 _ _ rfl rfl _ rfl (rc (M).code (M).n v) rfl _ _ ((hgra.block _ (hlt hy) (by simpa using Ne.symm hxy)).trans hy) infoRp rfl (rc_one _ _ _ hv1) ?_; intro wb hrb hgrb hszb))
     go_meet
     case rel => exact ⟨w1.heap.size, w8.heap.size, a1, cap1, v, rfl, rfl, two_of hPl hRs hgra hra hgrb hrb⟩
    ·go_wp2_with (first | go_skip)
     generalize hY : World.alloc w7 _ = w10
     replace hPl : Pool W0 w10 [(w7.heap.size, .cells (rc 0 0 (.slice none 0 0)) 44 (0, 0)), (w1.heap.size, .cells (hc Hs.zero (.slice none 0 0)) 29 (0, 0))] := by rw [← hY]; exact hPl.alloc (.cells (rc 0 0 (.slice none 0 0)) 44)
     replace hOw : RowKit.Hid (OwnPays w10 W0.heap.size v1 l) := Lib.hid (by rw [← hY]; exact hOw.out.below ((Below.refl _ _).alloc (Nat.le_refl _) (.cells (rc 0 0 (.slice none 0 0)) 44)))
     clear hY
     refine ⟨hPl.low, ?_⟩
     (try simp only [Act.put, List.setIfInBounds_toArray, List.set_cons_succ, List.set_cons_zero])
     refine wpG_one (i := 3) (by kernel_rfl) rfl ?_
     go_wp2_with (first | go_skip | (go_at_call 61; refine (cN.out v1 w10 hOw.out).mono ?_; rintro e w11 ⟨⟨a1, cap1, v, rfl, hp1, ho1, hs1⟩, hO1⟩))
     have hpr := NextPost.res hPl hOw.out (by simp) hp1 ho1 hs1 hO1
     replace hPl := hpr.1
     have hRs := hpr.2
     have hv1 : v.oneCell' = true := ho1.one
     clear hpr hOw hp1 ho1 hs1 hO1
     refine ⟨hPl.low, ?_⟩
     (try simp only [Act.put, List.setIfInBounds_toArray, List.set_cons_succ, List.set_cons_zero])
     refine wpG_put 14 (i := 4) (oi := _) (v := (.tuple #[.agg (hc M.h (.slice a1 M.l.length cap1)), .agg (rc M.code M.n v)])) [4] rfl rfl (by kernel_rfl) (by kernel_rfl) (by kernel_rfl) (by kernel_rfl) (fun _ _ _ h => h) hPl.low ?hy9 ?rs9
     case hy9 => exact Or.inl ⟨by rfl, by intro w' hb; go_simp⟩
     (try simp only [Act.put, List.setIfInBounds_toArray, List.set_cons_succ, List.set_cons_zero])
     refine wpG_put 19 (i := 5) (oi := _) (v := (.agg (hc M.h (.slice a1 M.l.length cap1)))) [5] rfl rfl (by kernel_rfl) (by kernel_rfl) (by kernel_rfl) (by kernel_rfl) (fun _ _ _ h => h) hPl.low ?hy10 ?rs10
     case hy10 => exact Or.inl ⟨by rfl, by intro w' hb; go_simp⟩
     (try simp only [Act.put, List.setIfInBounds_toArray, List.set_cons_succ, List.set_cons_zero])
     refine wpG_put 20 (i := 6) (oi := _) (v := (.agg (rc M.code M.n v))) [6] rfl rfl (by kernel_rfl) (by kernel_rfl) (by kernel_rfl) (by kernel_rfl) (fun _ _ _ h => h) hPl.low ?hy11 ?rs11
     case hy11 => exact Or.inl ⟨by rfl, by intro w' hb; go_simp⟩
     (try simp only [Act.put, List.setIfInBounds_toArray, List.set_cons_succ, List.set_cons_zero])
     replace hPl := hPl.swap
     replace hRs := hRs.swap
     have hx := (hPl.box (w1.heap.size, .cells (hc Hs.zero (.slice none 0 0)) 29 (0, 0)) (by simp)).2
     have hy := (hPl.box (w7.heap.size, .cells (rc 0 0 (.slice none 0 0)) 44 (0, 0)) (by simp)).2
     have hxy : w1.heap.size ≠ w7.heap.size := by have := hPl.nodup; simp only [List.map_cons, List.map_nil, List.nodup_cons, List.mem_singleton, List.not_mem_nil, not_false_eq_true, List.nodup_nil, and_true] at this; exact this
     refine wpG_one (i := 9) (by kernel_rfl) rfl ?_
     go_wp2_with (first | go_skip | (refine st_row 29 _ _ rfl rfl _ rfl _ rfl _ _ hx info30 rfl (hc_one _ _ rfl) ?_; intro wa hra hgra hsza))
     refine ⟨(({ hPl with box := by simp, nodup := by simp } : Pool W0 w11 []).only (by exact only_grown hgra) (fun b e => by cases e; exact (hPl.box (w1.heap.size, .cells (hc Hs.zero (.slice none 0 0)) 29 (0, 0)) (by simp)).1) (by simp)).low, ?_⟩
     (try simp only [Act.put, List.setIfInBounds_toArray, List.set_cons_succ, List.set_cons_zero])
     refine wpG_drop 10 rfl (by kernel_rfl) ?_
     simp only [List.drop_succ_cons, List.drop_zero]
     go_wp2_with (first | go_skip | (refine st_row 44 _ _ rfl rfl _ rfl (rc (M).code (M).n v) rfl _ _ ((hgra.block _ (hlt hy) (by simpa using Ne.symm hxy)).trans hy) infoRp rfl (rc_one _ _ _ hv1) ?_; intro wb hrb hgrb hszb))
     go_meet
     case rel => exact ⟨w1.heap.size, w7.heap.size, a1, cap1, v, rfl, rfl, two_of hPl hRs hgra hra hgrb hrb⟩
   ·go_wp2_with (first | go_skip)
    generalize hY : World.alloc w1 _ = w12
    replace hPl : Pool W0 w12 [(w1.heap.size, .cells (rc 0 0 (.slice none 0 0)) 44 (0, 0))] := by rw [← hY]; exact hPl.alloc (.cells (rc 0 0 (.slice none 0 0)) 44)
    replace hOw : RowKit.Hid (OwnPays w12 W0.heap.size v1 l) := Lib.hid (by rw [← hY]; exact hOw.out.below ((Below.refl _ _).alloc (Nat.le_refl _) (.cells (rc 0 0 (.slice none 0 0)) 44)))
    clear hY
    refine ⟨hPl.low, ?_⟩
    (try simp only [Act.put, List.setIfInBounds_toArray, List.set_cons_succ, List.set_cons_zero])
    refine wpG_two (i := 3) (j := 7) (by kernel_rfl) rfl rfl ?_ ?_
    ·go_wp2_with (first | go_skip | (go_at_call 61; refine (cN.out v1 w12 hOw.out).mono ?_; rintro e w13 ⟨⟨a1, cap1, v, rfl, hp1, ho1, hs1⟩, hO1⟩))
     have hpr := NextPost.res hPl hOw.out (by simp) hp1 ho1 hs1 hO1
     replace hPl := hpr.1
     have hRs := hpr.2
     have hv1 : v.oneCell' = true := ho1.one
     clear hpr hOw hp1 ho1 hs1 hO1
     refine ⟨hPl.low, ?_⟩
     (try simp only [Act.put, List.setIfInBounds_toArray, List.set_cons_succ, List.set_cons_zero])
     refine wpG_put 14 (i := 4) (oi := _) (v := (.tuple #[.agg (hc M.h (.slice a1 M.l.length cap1)), .agg (rc M.code M.n v)])) [4] rfl rfl (by kernel_rfl) (by kernel_rfl) (by kernel_rfl) (by kernel_rfl) (fun _ _ _ h => h) hPl.low ?hy12 ?rs12
     case hy12 => exact Or.inl ⟨by rfl, by intro w' hb; go_simp⟩
     (try simp only [Act.put, List.setIfInBounds_toArray, List.set_cons_succ, List.set_cons_zero])
     refine wpG_put 19 (i := 5) (oi := _) (v := (.agg (hc M.h (.slice a1 M.l.length cap1)))) [5] rfl rfl (by kernel_rfl) (by kernel_rfl) (by kernel_rfl) (by kernel_rfl) (fun _ _ _ h => h) hPl.low ?hy13 ?rs13
     case hy13 => exact Or.inl ⟨by rfl, by intro w' hb; go_simp⟩
     (try simp only [Act.put, List.setIfInBounds_toArray, List.set_cons_succ, List.set_cons_zero])
     refine wpG_put 20 (i := 6) (oi := _) (v := (.agg (rc M.code M.n v))) [6] rfl rfl (by kernel_rfl) (by kernel_rfl) (by kernel_rfl) (by kernel_rfl) (fun _ _ _ h => h) hPl.low ?hy14 ?rs14
     case hy14 => exact Or.inl ⟨by rfl, by intro w' hb; go_simp⟩
     (try simp only [Act.put, List.setIfInBounds_toArray, List.set_cons_succ, List.set_cons_zero])
     refine wpG_one (i := 7) (by kernel_rfl) rfl ?_
     go_wp2_with (first | go_skip)
     generalize hY : World.alloc w13 _ = w14
     replace hPl : Pool W0 w14 [(w13.heap.size, .cells (hc Hs.zero (.slice none 0 0)) 29 (0, 0)), (w1.heap.size, .cells (rc 0 0 (.slice none 0 0)) 44 (0, 0))] := by rw [← hY]; exact hPl.alloc (.cells (hc Hs.zero (.slice none 0 0)) 29)
     replace hRs : Res (fun _ => False) W0 w14 [(w13.heap.size, .cells (hc Hs.zero (.slice none 0 0)) 29 (0, 0)), (w1.heap.size, .cells (rc 0 0 (.slice none 0 0)) 44 (0, 0))] (M) a1 cap1 v := by rw [← hY]; exact hRs.alloc (.cells (hc Hs.zero (.slice none 0 0)) 29)
     clear hY
     refine ⟨hPl.low, ?_⟩
     (try simp only [Act.put, List.setIfInBounds_toArray, List.set_cons_succ, List.set_cons_zero])
     have hx := (hPl.box (w13.heap.size, .cells (hc Hs.zero (.slice none 0 0)) 29 (0, 0)) (by simp)).2
     have hy := (hPl.box (w1.heap.size, .cells (rc 0 0 (.slice none 0 0)) 44 (0, 0)) (by simp)).2
     have hxy : w13.heap.size ≠ w1.heap.size := by have := hPl.nodup; simp only [List.map_cons, List.map_nil, List.nodup_cons, List.mem_singleton, List.not_mem_nil, not_false_eq_true, List.nodup_nil, and_true] at this; exact this
     refine wpG_one (i := 9) (by kernel_rfl) rfl ?_
     go_wp2_with (first | go_skip | (refine st_row 29 _ _ rfl rfl _ rfl _ rfl _ _ hx info30 rfl (hc_one _ _ rfl) ?_; intro wa hra hgra hsza))
     refine ⟨(({ hPl with box := by simp, nodup := by simp } : Pool W0 w14 []).only (by exact only_grown hgra) (fun b e => by cases e; exact (hPl.box (w13.heap.size, .cells (hc Hs.zero (.slice none 0 0)) 29 (0, 0)) (by simp)).1) (by simp)).low, ?_⟩
     (try simp only [Act.put, List.setIfInBounds_toArray, List.set_cons_succ, List.set_cons_zero])
     refine wpG_drop 10 rfl (by kernel_rfl) ?_
     simp only [List.drop_succ_cons, List.drop_zero]
     go_wp2_with (first | go_skip | (refine st_row 44 _ _ rfl rfl _ rfl (rc (M).code (M).n v) rfl _ _ ((hgra.block _ (hlt hy) (by simpa using Ne.symm hxy)).trans hy) infoRp rfl (rc_one _ _ _ hv1) ?_; intro wb hrb hgrb hszb))
     go_meet
     case rel => exact ⟨w13.heap.size, w1.heap.size, a1, cap1, v, rfl, rfl, two_of hPl hRs hgra hra hgrb hrb⟩
    ·go_wp2_with (first | go_skip)
     generalize hY : World.alloc w12 _ = w15
     replace hPl : Pool W0 w15 [(w12.heap.size, .cells (hc Hs.zero (.slice none 0 0)) 29 (0, 0)), (w1.heap.size, .cells (rc 0 0 (.slice none 0 0)) 44 (0, 0))] := by rw [← hY]; exact hPl.alloc (.cells (hc Hs.zero (.slice none 0 0)) 29)
     replace hOw : RowKit.Hid (OwnPays w15 W0.heap.size v1 l) := Lib.hid (by rw [← hY]; exact hOw.out.below ((Below.refl _ _).alloc (Nat.le_refl _) (.cells (hc Hs.zero (.slice none 0 0)) 29)))
     clear hY
     refine ⟨hPl.low, ?_⟩
     (try simp only [Act.put, List.setIfInBounds_toArray, List.set_cons_succ, List.set_cons_zero])
     refine wpG_one (i := 3) (by kernel_rfl) rfl ?_
     go_wp2_with (first | go_skip | (go_at_call 61; refine (cN.out v1 w15 hOw.out).mono ?_; rintro e w16 ⟨⟨a1, cap1, v, rfl, hp1, ho1, hs1⟩, hO1⟩))
     have hpr := NextPost.res hPl hOw.out (by simp) hp1 ho1 hs1 hO1
     replace hPl := hpr.1
     have hRs := hpr.2
     have hv1 : v.oneCell' = true := ho1.one
     clear hpr hOw hp1 ho1 hs1 hO1
     refine ⟨hPl.low, ?_⟩
     (try simp only [Act.put, List.setIfInBounds_toArray, List.set_cons_succ, List.set_cons_zero])
     refine wpG_put 14 (i := 4) (oi := _) (v := (.tuple #[.agg (hc M.h (.slice a1 M.l.length cap1)), .agg (rc M.code M.n v)])) [4] rfl rfl (by kernel_rfl) (by kernel_rfl) (by kernel_rfl) (by kernel_rfl) (fun _ _ _ h => h) hPl.low ?hy15 ?rs15
     case hy15 => exact Or.inl ⟨by rfl, by intro w' hb; go_simp⟩
     (try simp only [Act.put, List.setIfInBounds_toArray, List.set_cons_succ, List.set_cons_zero])
     refine wpG_put 19 (i := 5) (oi := _) (v := (.agg (hc M.h (.slice a1 M.l.length cap1)))) [5] rfl rfl (by kernel_rfl) (by kernel_rfl) (by kernel_rfl) (by kernel_rfl) (fun _ _ _ h => h) hPl.low ?hy16 ?rs16
     case hy16 => exact Or.inl ⟨by rfl, by intro w' hb; go_simp⟩
     (try simp only [Act.put, List.setIfInBounds_toArray, List.set_cons_succ, List.set_cons_zero])
     refine wpG_put 20 (i := 6) (oi := _) (v := (.agg (rc M.code M.n v))) [6] rfl rfl (by kernel_rfl) (by kernel_rfl) (by kernel_rfl) (by kernel_rfl) (fun _ _ _ h => h) hPl.low ?hy17 ?rs17
     case hy17 => exact Or.inl ⟨by rfl, by intro w' hb; go_simp⟩
     (try simp only [Act.put, List.setIfInBounds_toArray, List.set_cons_succ, List.set_cons_zero])
     have hx := (hPl.box (w12.heap.size, .cells (hc Hs.zero (.slice none 0 0)) 29 (0, 0)) (by simp)).2
     have hy := (hPl.box (w1.heap.size, .cells (rc 0 0 (.slice none 0 0)) 44 (0, 0)) (by simp)).2
     have hxy : w12.heap.size ≠ w1.heap.size := by have := hPl.nodup; simp only [List.map_cons, List.map_nil, List.nodup_cons, List.mem_singleton, List.not_mem_nil, not_false_eq_true, List.nodup_nil, and_true] at this; exact this
     refine wpG_one (i := 9) (by kernel_rfl) rfl ?_
     go_wp2_with (first | go_skip | (refine st_row 29 _ _ rfl rfl _ rfl _ rfl _ _ hx info30 rfl (hc_one _ _ rfl) ?_; intro wa hra hgra hsza))
     refine ⟨(({ hPl with box := by simp, nodup := by simp } : Pool W0 w16 []).only (by exact only_grown hgra) (fun b e => by cases e; exact (hPl.box (w12.heap.size, .cells (hc Hs.zero (.slice none 0 0)) 29 (0, 0)) (by simp)).1) (by simp)).low, ?_⟩
     (try simp only [Act.put, List.setIfInBounds_toArray, List.set_cons_succ, List.set_cons_zero])
     refine wpG_drop 10 rfl (by kernel_rfl) ?_
     simp only [List.drop_succ_cons, List.drop_zero]
     go_wp2_with (first | go_skip | (refine st_row 44 _ _ rfl rfl _ rfl (rc (M).code (M).n v) rfl _ _ ((hgra.block _ (hlt hy) (by simpa using Ne.symm hxy)).trans hy) infoRp rfl (rc_one _ _ _ hv1) ?_; intro wb hrb hgrb hszb))
     go_meet
     case rel => exact ⟨w12.heap.size, w1.heap.size, a1, cap1, v, rfl, rfl, two_of hPl hRs hgra hra hgrb hrb⟩
  ·go_wp2_with (first | go_skip)
   generalize hY : World.alloc wd _ = w17
   replace hPl : Pool W0 w17 [(wd.heap.size, .cells (hc Hs.zero (.slice none 0 0)) 29 (0, 0))] := by rw [← hY]; exact hPl.alloc (.cells (hc Hs.zero (.slice none 0 0)) 29)
   clear hY
   refine ⟨hPl.low, ?_⟩
   (try simp only [Act.put, List.setIfInBounds_toArray, List.set_cons_succ, List.set_cons_zero])
   refine wpG_two (i := 1) (j := 8) (by kernel_rfl) rfl rfl ?_ ?_
   ·have hsw := hPl.low.size
    go_wp2_with (first | go_skip | (go_at_call 51; refine (cC.out w17 hPl.low).mono ?_; rintro e w18 ⟨⟨v1, rfl, hown⟩, hb1⟩))
    replace hPl := hPl.below hb1
    have hOw : RowKit.Hid (OwnPays w18 W0.heap.size v1 l) := Lib.hid (hown.mono hsw)
    clear hown hb1 hsw
    refine ⟨hPl.low, ?_⟩
    (try simp only [Act.put, List.setIfInBounds_toArray, List.set_cons_succ, List.set_cons_zero])
    refine wpG_two (i := 3) (j := 8) (by kernel_rfl) rfl rfl ?_ ?_
    ·go_wp2_with (first | go_skip | (go_at_call 61; refine (cN.out v1 w18 hOw.out).mono ?_; rintro e w19 ⟨⟨a1, cap1, v, rfl, hp1, ho1, hs1⟩, hO1⟩))
     have hpr := NextPost.res hPl hOw.out (by simp) hp1 ho1 hs1 hO1
     replace hPl := hpr.1
     have hRs := hpr.2
     have hv1 : v.oneCell' = true := ho1.one
     clear hpr hOw hp1 ho1 hs1 hO1
     refine ⟨hPl.low, ?_⟩
     (try simp only [Act.put, List.setIfInBounds_toArray, List.set_cons_succ, List.set_cons_zero])
     refine wpG_put 14 (i := 4) (oi := _) (v := (.tuple #[.agg (hc M.h (.slice a1 M.l.length cap1)), .agg (rc M.code M.n v)])) [4] rfl rfl (by kernel_rfl) (by kernel_rfl) (by kernel_rfl) (by kernel_rfl) (fun _ _ _ h => h) hPl.low ?hy18 ?rs18
     case hy18 => exact Or.inl ⟨by rfl, by intro w' hb; go_simp⟩
     (try simp only [Act.put, List.setIfInBounds_toArray, List.set_cons_succ, List.set_cons_zero])
     refine wpG_put 19 (i := 5) (oi := _) (v := (.agg (hc M.h (.slice a1 M.l.length cap1)))) [5] rfl rfl (by kernel_rfl) (by kernel_rfl) (by kernel_rfl) (by kernel_rfl) (fun _ _ _ h => h) hPl.low ?hy19 ?rs19
     case hy19 => exact Or.inl ⟨by rfl, by intro w' hb; go_simp⟩
     (try simp only [Act.put, List.setIfInBounds_toArray, List.set_cons_succ, List.set_cons_zero])
     refine wpG_put 20 (i := 6) (oi := _) (v := (.agg (rc M.code M.n v))) [6] rfl rfl (by kernel_rfl) (by kernel_rfl) (by kernel_rfl) (by kernel_rfl) (fun _ _ _ h => h) hPl.low ?hy20 ?rs20
     case hy20 => exact Or.inl ⟨by rfl, by intro w' hb; go_simp⟩
     (try simp only [Act.put, List.setIfInBounds_toArray, List.set_cons_succ, List.set_cons_zero])
     refine wpG_one (i := 8) (by kernel_rfl) rfl ?_
     go_wp2_with (first | go_skip)
     generalize hY : World.alloc w19 _ = w20
     replace hPl : Pool W0 w20 [(w19.heap.size, .cells (rc 0 0 (.slice none 0 0)) 44 (0, 0)), (wd.heap.size, .cells (hc Hs.zero (.slice none 0 0)) 29 (0, 0))] := by rw [← hY]; exact hPl.alloc (.cells (rc 0 0 (.slice none 0 0)) 44)
     replace hRs : Res (fun _ => False) W0 w20 [(w19.heap.size, .cells (rc 0 0 (.slice none 0 0)) 44 (0, 0)), (wd.heap.size, .cells (hc Hs.zero (.slice none 0 0)) 29 (0, 0))] (M) a1 cap1 v := by rw [← hY]; exact hRs.alloc (.cells (rc 0 0 (.slice none 0 0)) 44)
     clear hY
     refine ⟨hPl.low, ?_⟩
     (try simp only [Act.put, List.setIfInBounds_toArray, List.set_cons_succ, List.set_cons_zero])
     replace hPl := hPl.swap
     replace hRs := hRs.swap
     have hx := (hPl.box (wd.heap.size, .cells (hc Hs.zero (.slice none 0 0)) 29 (0, 0)) (by simp)).2
     have hy := (hPl.box (w19.heap.size, .cells (rc 0 0 (.slice none 0 0)) 44 (0, 0)) (by simp)).2
     have hxy : wd.heap.size ≠ w19.heap.size := by have := hPl.nodup; simp only [List.map_cons, List.map_nil, List.nodup_cons, List.mem_singleton, List.not_mem_nil, not_false_eq_true, List.nodup_nil, and_true] at this; exact this
     refine wpG_one (i := 9) (by kernel_rfl) rfl ?_
     go_wp2_with (first | go_skip | (refine st_row 29 _ _ rfl rfl _ rfl _ rfl _ _ hx info30 rfl (hc_one _ _ rfl) ?_; intro wa hra hgra hsza))
     refine ⟨(({ hPl with box := by simp, nodup := by simp } : Pool W0 w20 []).only (by exact only_grown hgra) (fun b e => by cases e; exact (hPl.box (wd.heap.size, .cells (hc Hs.zero (.slice none 0 0)) 29 (0, 0)) (by simp)).1) (by simp)).low, ?_⟩
     (try simp only [Act.put, List.setIfInBounds_toArray, List.set_cons_succ, List.set_cons_zero])
     refine wpG_drop 10 rfl (by kernel_rfl) ?_
     simp only [List.drop_succ_cons, List.drop_zero]
     go_wp2_with (first | go_skip | (refine st_row 44 _ _ rfl rfl _ rfl (rc (M).code (M).n v) rfl _ _ ((hgra.block _ (hlt hy) (by simpa using Ne.symm hxy)).trans hy) infoRp rfl (rc_one _ _ _ hv1) ?_; intro wb hrb hgrb hszb))
     go_meet
     case rel => exact ⟨wd.heap.size, w19.heap.size, a1, cap1, v, rfl, rfl, two_of hPl hRs hgra hra hgrb hrb⟩
    ·go_wp2_with (first | go_skip)
     generalize hY : World.alloc w18 _ = w21
     replace hPl : Pool W0 w21 [(w18.heap.size, .cells (rc 0 0 (.slice none 0 0)) 44 (0, 0)), (wd.heap.size, .cells (hc Hs.zero (.slice none 0 0)) 29 (0, 0))] := by rw [← hY]; exact hPl.alloc (.cells (rc 0 0 (.slice none 0 0)) 44)
     replace hOw : RowKit.Hid (OwnPays w21 W0.heap.size v1 l) := Lib.hid (by rw [← hY]; exact hOw.out.below ((Below.refl _ _).alloc (Nat.le_refl _) (.cells (rc 0 0 (.slice none 0 0)) 44)))
     clear hY
     refine ⟨hPl.low, ?_⟩
     (try simp only [Act.put, List.setIfInBounds_toArray, List.set_cons_succ, List.set_cons_zero])
     refine wpG_one (i := 3) (by kernel_rfl) rfl ?_
     go_wp2_with (first | go_skip | (go_at_call 61; refine (cN.out v1 w21 hOw.out).mono ?_; rintro e w22 ⟨⟨a1, cap1, v, rfl, hp1, ho1, hs1⟩, hO1⟩))
     have hpr := NextPost.res hPl hOw.out (by simp) hp1 ho1 hs1 hO1
     replace hPl := hpr.1
     have hRs := hpr.2
     have hv1 : v.oneCell' = true := ho1.one
     clear hpr hOw hp1 ho1 hs1 hO1
     refine ⟨hPl.low, ?_⟩
     (try simp only [Act.put, List.setIfInBounds_toArray, List.set_cons_succ, List.set_cons_zero])
     refine wpG_put 14 (i := 4) (oi := _) (v := (.tuple #[.agg (hc M.h (.slice a1 M.l.length cap1)), .agg (rc M.code M.n v)])) [4] rfl rfl (by kernel_rfl) (by kernel_rfl) (by kernel_rfl) (by kernel_rfl) (fun _ _ _ h => h) hPl.low ?hy21 ?rs21
     case hy21 => exact Or.inl ⟨by rfl, by intro w' hb; go_simp⟩
     (try simp only [Act.put, List.setIfInBounds_toArray, List.set_cons_succ, List.set_cons_zero])
     refine wpG_put 19 (i := 5) (oi := _) (v := (.agg (hc M.h (.slice a1 M.l.length cap1)))) [5] rfl rfl (by kernel_rfl) (by kernel_rfl) (by kernel_rfl) (by kernel_rfl) (fun _ _ _ h => h) hPl.low ?hy22 ?rs22
     case hy22 => exact Or.inl ⟨by rfl, by intro w' hb; go_simp⟩
     (try simp only [Act.put, List.setIfInBounds_toArray, List.set_cons_succ, List.set_cons_zero])
     refine wpG_put 20 (i := 6) (oi := _) (v := (.agg (rc M.code M.n v))) [6] rfl rfl (by kernel_rfl) (by kernel_rfl) (by kernel_rfl) (by kernel_rfl) (fun _ _ _ h => h) hPl.low ?hy23 ?rs23
     case hy23 => exact Or.inl ⟨by rfl, by intro w' hb; go_simp⟩
     (try simp only [Act.put, List.setIfInBounds_toArray, List.set_cons_succ, List.set_cons_zero])
     replace hPl := hPl.swap
     replace hRs := hRs.swap
     have hx := (hPl.box (wd.heap.size, .cells (hc Hs.zero (.slice none 0 0)) 29 (0, 0)) (by simp)).2
     have hy := (hPl.box (w18.heap.size, .cells (rc 0 0 (.slice none 0 0)) 44 (0, 0)) (by simp)).2
     have hxy : wd.heap.size ≠ w18.heap.size := by have := hPl.nodup; simp only [List.map_cons, List.map_nil, List.nodup_cons, List.mem_singleton, List.not_mem_nil, not_false_eq_true, List.nodup_nil, and_true] at this; exact this
     refine wpG_one (i := 9) (by kernel_rfl) rfl ?_
     go_wp2_with (first | go_skip | (refine st_row 29 _ _ rfl rfl _ rfl _ rfl _ _ hx info30 rfl (hc_one _ _ rfl) ?_; intro wa hra hgra hsza))
     refine ⟨(({ hPl with box := by simp, nodup := by simp } : Pool W0 w22 []).only (by exact only_grown hgra) (fun b e => by cases e; exact (hPl.box (wd.heap.size, .cells (hc Hs.zero (.slice none 0 0)) 29 (0, 0)) (by simp)).1) (by simp)).low, ?_⟩
     (try simp only [Act.put, List.setIfInBounds_toArray, List.set_cons_succ, List.set_cons_zero])
     refine wpG_drop 10 rfl (by kernel_rfl) ?_
     simp only [List.drop_succ_cons, List.drop_zero]
     go_wp2_with (first | go_skip | (refine st_row 44 _ _ rfl rfl _ rfl (rc (M).code (M).n v) rfl _ _ ((hgra.block _ (hlt hy) (by simpa using Ne.symm hxy)).trans hy) infoRp rfl (rc_one _ _ _ hv1) ?_; intro wb hrb hgrb hszb))
     go_meet
     case rel => exact ⟨wd.heap.size, w18.heap.size, a1, cap1, v, rfl, rfl, two_of hPl hRs hgra hra hgrb hrb⟩
   ·go_wp2_with (first | go_skip)
    generalize hY : World.alloc w17 _ = w23
    replace hPl : Pool W0 w23 [(w17.heap.size, .cells (rc 0 0 (.slice none 0 0)) 44 (0, 0)), (wd.heap.size, .cells (hc Hs.zero (.slice none 0 0)) 29 (0, 0))] := by rw [← hY]; exact hPl.alloc (.cells (rc 0 0 (.slice none 0 0)) 44)
    clear hY
    refine ⟨hPl.low, ?_⟩
    (try simp only [Act.put, List.setIfInBounds_toArray, List.set_cons_succ, List.set_cons_zero])
    refine wpG_one (i := 1) (by kernel_rfl) rfl ?_
    have hsw := hPl.low.size
    go_wp2_with (first | go_skip | (go_at_call 51; refine (cC.out w23 hPl.low).mono ?_; rintro e w24 ⟨⟨v1, rfl, hown⟩, hb1⟩))
    replace hPl := hPl.below hb1
    have hOw : RowKit.Hid (OwnPays w24 W0.heap.size v1 l) := Lib.hid (hown.mono hsw)
    clear hown hb1 hsw
    refine ⟨hPl.low, ?_⟩
    (try simp only [Act.put, List.setIfInBounds_toArray, List.set_cons_succ, List.set_cons_zero])
    refine wpG_one (i := 3) (by kernel_rfl) rfl ?_
    go_wp2_with (first | go_skip | (go_at_call 61; refine (cN.out v1 w24 hOw.out).mono ?_; rintro e w25 ⟨⟨a1, cap1, v, rfl, hp1, ho1, hs1⟩, hO1⟩))
    have hpr := NextPost.res hPl hOw.out (by simp) hp1 ho1 hs1 hO1
    replace hPl := hpr.1
    have hRs := hpr.2
    have hv1 : v.oneCell' = true := ho1.one
    clear hpr hOw hp1 ho1 hs1 hO1
    refine ⟨hPl.low, ?_⟩
    (try simp only [Act.put, List.setIfInBounds_toArray, List.set_cons_succ, List.set_cons_zero])
    refine wpG_put 14 (i := 4) (oi := _) (v := (.tuple #[.agg (hc M.h (.slice a1 M.l.length cap1)), .agg (rc M.code M.n v)])) [4] rfl rfl (by kernel_rfl) (by kernel_rfl) (by kernel_rfl) (by kernel_rfl) (fun _ _ _ h => h) hPl.low ?hy24 ?rs24
    case hy24 => exact Or.inl ⟨by rfl, by intro w' hb; go_simp⟩
    (try simp only [Act.put, List.setIfInBounds_toArray, List.set_cons_succ, List.set_cons_zero])
    refine wpG_put 19 (i := 5) (oi := _) (v := (.agg (hc M.h (.slice a1 M.l.length cap1)))) [5] rfl rfl (by kernel_rfl) (by kernel_rfl) (by kernel_rfl) (by kernel_rfl) (fun _ _ _ h => h) hPl.low ?hy25 ?rs25
    case hy25 => exact Or.inl ⟨by rfl, by intro w' hb; go_simp⟩
    (try simp only [Act.put, List.setIfInBounds_toArray, List.set_cons_succ, List.set_cons_zero])
    refine wpG_put 20 (i := 6) (oi := _) (v := (.agg (rc M.code M.n v))) [6] rfl rfl (by kernel_rfl) (by kernel_rfl) (by kernel_rfl) (by kernel_rfl) (fun _ _ _ h => h) hPl.low ?hy26 ?rs26
    case hy26 => exact Or.inl ⟨by rfl, by intro w' hb; go_simp⟩
    (try simp only [Act.put, List.setIfInBounds_toArray, List.set_cons_succ, List.set_cons_zero])
    replace hPl := hPl.swap
    replace hRs := hRs.swap
    have hx := (hPl.box (wd.heap.size, .cells (hc Hs.zero (.slice none 0 0)) 29 (0, 0)) (by simp)).2
    have hy := (hPl.box (w17.heap.size, .cells (rc 0 0 (.slice none 0 0)) 44 (0, 0)) (by simp)).2
    have hxy : wd.heap.size ≠ w17.heap.size := by have := hPl.nodup; simp only [List.map_cons, List.map_nil, List.nodup_cons, List.mem_singleton, List.not_mem_nil, not_false_eq_true, List.nodup_nil, and_true] at this; exact this
    refine wpG_one (i := 9) (by kernel_rfl) rfl ?_
    go_wp2_with (first | go_skip | (refine st_row 29 _ _ rfl rfl _ rfl _ rfl _ _ hx info30 rfl (hc_one _ _ rfl) ?_; intro wa hra hgra hsza))
    refine ⟨(({ hPl with box := by simp, nodup := by simp } : Pool W0 w25 []).only (by exact only_grown hgra) (fun b e => by cases e; exact (hPl.box (wd.heap.size, .cells (hc Hs.zero (.slice none 0 0)) 29 (0, 0)) (by simp)).1) (by simp)).low, ?_⟩
    (try simp only [Act.put, List.setIfInBounds_toArray, List.set_cons_succ, List.set_cons_zero])
    refine wpG_drop 10 rfl (by kernel_rfl) ?_
    simp only [List.drop_succ_cons, List.drop_zero]
    go_wp2_with (first | go_skip | (refine st_row 44 _ _ rfl rfl _ rfl (rc (M).code (M).n v) rfl _ _ ((hgra.block _ (hlt hy) (by simpa using Ne.symm hxy)).trans hy) infoRp rfl (rc_one _ _ _ hv1) ?_; intro wb hrb hgrb hszb))
    go_meet
    case rel => exact ⟨wd.heap.size, w17.heap.size, a1, cap1, v, rfl, rfl, two_of hPl hRs hgra hra hgrb hrb⟩
  ·go_wp2_with (first | go_skip)
   generalize hY : World.alloc wd _ = w26
   replace hPl : Pool W0 w26 [(wd.heap.size, .cells (rc 0 0 (.slice none 0 0)) 44 (0, 0))] := by rw [← hY]; exact hPl.alloc (.cells (rc 0 0 (.slice none 0 0)) 44)
   clear hY
   refine ⟨hPl.low, ?_⟩
   (try simp only [Act.put, List.setIfInBounds_toArray, List.set_cons_succ, List.set_cons_zero])
   refine wpG_two (i := 1) (j := 7) (by kernel_rfl) rfl rfl ?_ ?_
   ·have hsw := hPl.low.size
    go_wp2_with (first | go_skip | (go_at_call 51; refine (cC.out w26 hPl.low).mono ?_; rintro e w27 ⟨⟨v1, rfl, hown⟩, hb1⟩))
    replace hPl := hPl.below hb1
    have hOw : RowKit.Hid (OwnPays w27 W0.heap.size v1 l) := Lib.hid (hown.mono hsw)
    clear hown hb1 hsw
    refine ⟨hPl.low, ?_⟩
    (try simp only [Act.put, List.setIfInBounds_toArray, List.set_cons_succ, List.set_cons_zero])
    refine wpG_two (i := 3) (j := 7) (by kernel_rfl) rfl rfl ?_ ?_
    ·go_wp2_with (first | go_skip | (go_at_call 61; refine (cN.out v1 w27 hOw.out).mono ?_; rintro e w28 ⟨⟨a1, cap1, v, rfl, hp1, ho1, hs1⟩, hO1⟩))
     have hpr := NextPost.res hPl hOw.out (by simp) hp1 ho1 hs1 hO1
     replace hPl := hpr.1
     have hRs := hpr.2
     have hv1 : v.oneCell' = true := ho1.one
     clear hpr hOw hp1 ho1 hs1 hO1
     refine ⟨hPl.low, ?_⟩
     (try simp only [Act.put, List.setIfInBounds_toArray, List.set_cons_succ, List.set_cons_zero])
     refine wpG_put 14 (i := 4) (oi := _) (v := (.tuple #[.agg (hc M.h (.slice a1 M.l.length cap1)), .agg (rc M.code M.n v)])) [4] rfl rfl (by kernel_rfl) (by kernel_rfl) (by kernel_rfl) (by kernel_rfl) (fun _ _ _ h => h) hPl.low ?hy27 ?rs27
     case hy27 => exact Or.inl ⟨by rfl, by intro w' hb; go_simp⟩
     (try simp only [Act.put, List.setIfInBounds_toArray, List.set_cons_succ, List.set_cons_zero])
     refine wpG_put 19 (i := 5) (oi := _) (v := (.agg (hc M.h (.slice a1 M.l.length cap1)))) [5] rfl rfl (by kernel_rfl) (by kernel_rfl) (by kernel_rfl) (by kernel_rfl) (fun _ _ _ h => h) hPl.low ?hy28 ?rs28
     case hy28 => exact Or.inl ⟨by rfl, by intro w' hb; go_simp⟩
     (try simp only [Act.put, List.setIfInBounds_toArray, List.set_cons_succ, List.set_cons_zero])
     refine wpG_put 20 (i := 6) (oi := _) (v := (.agg (rc M.code M.n v))) [6] rfl rfl (by kernel_rfl) (by kernel_rfl) (by kernel_rfl) (by kernel_rfl) (fun _ _ _ h => h) hPl.low ?hy29 ?rs29
     case hy29 => exact Or.inl ⟨by rfl, by intro w' hb; go_simp⟩
     (try simp only [Act.put, List.setIfInBounds_toArray, List.set_cons_succ, List.set_cons_zero])
     refine wpG_one (i := 7) (by kernel_rfl) rfl ?_
     go_wp2_with (first | go_skip)
     generalize hY : World.alloc w28 _ = w29
     replace hPl : Pool W0 w29 [(w28.heap.size, .cells (hc Hs.zero (.slice none 0 0)) 29 (0, 0)), (wd.heap.size, .cells (rc 0 0 (.slice none 0 0)) 44 (0, 0))] := by rw [← hY]; exact hPl.alloc (.cells (hc Hs.zero (.slice none 0 0)) 29)
     replace hRs : Res (fun _ => False) W0 w29 [(w28.heap.size, .cells (hc Hs.zero (.slice none 0 0)) 29 (0, 0)), (wd.heap.size, .cells (rc 0 0 (.slice none 0 0)) 44 (0, 0))] (M) a1 cap1 v := by rw [← hY]; exact hRs.alloc (.cells (hc Hs.zero (.slice none 0 0)) 29)
     clear hY
     refine ⟨hPl.low, ?_⟩
     (try simp only [Act.put, List.setIfInBounds_toArray, List.set_cons_succ, List.set_cons_zero])
     have hx := (hPl.box (w28.heap.size, .cells (hc Hs.zero (.slice none 0 0)) 29 (0, 0)) (by simp)).2
     have hy := (hPl.box (wd.heap.size, .cells (rc 0 0 (.slice none 0 0)) 44 (0, 0)) (by simp)).2
     have hxy : w28.heap.size ≠ wd.heap.size := by have := hPl.nodup; simp only [List.map_cons, List.map_nil, List.nodup_cons, List.mem_singleton, List.not_mem_nil, not_false_eq_true, List.nodup_nil, and_true] at this; exact this
     refine wpG_one (i := 9) (by kernel_rfl) rfl ?_
     go_wp2_with (first | go_skip | (refine st_row 29 _ _ rfl rfl _ rfl _ rfl _ _ hx info30 rfl (hc_one _ _ rfl) ?_; intro wa hra hgra hsza))
     refine ⟨(({ hPl with box := by simp, nodup := by simp } : Pool W0 w29 []).only (by exact only_grown hgra) (fun b e => by cases e; exact (hPl.box (w28.heap.size, .cells (hc Hs.zero (.slice none 0 0)) 29 (0, 0)) (by simp)).1) (by simp)).low, ?_⟩
     (try simp only [Act.put, List.setIfInBounds_toArray, List.set_cons_succ, List.set_cons_zero])
     refine wpG_drop 10 rfl (by kernel_rfl) ?_
     simp only [List.drop_succ_cons, List.drop_zero]
     go_wp2_with (first | go_skip | (refine st_row 44 _ _ rfl rfl _ rfl (rc (M).code (M).n v) rfl _ _ ((hgra.block _ (hlt hy) (by simpa using Ne.symm hxy)).trans hy) infoRp rfl (rc_one _ _ _ hv1) ?_; intro wb hrb hgrb hszb))
     go_meet
     case rel => exact ⟨w28.heap.size, wd.heap.size, a1, cap1, v, rfl, rfl, two_of hPl hRs hgra hra hgrb hrb⟩
    ·go_wp2_with (first | go_skip)
     generalize hY : World.alloc w27 _ = w30
     replace hPl : Pool W0 w30 [(w27.heap.size, .cells (hc Hs.zero (.slice none 0 0)) 29 (0, 0)), (wd.heap.size, .cells (rc 0 0 (.slice none 0 0)) 44 (0, 0))] := by rw [← hY]; exact hPl.alloc (.cells (hc Hs.zero (.slice none 0 0)) 29)
     replace hOw : RowKit.Hid (OwnPays w30 W0.heap.size v1 l) := Lib.hid (by rw [← hY]; exact hOw.out.below ((Below.refl _ _).alloc (Nat.le_refl _) (.cells (hc Hs.zero (.slice none 0 0)) 29)))
     clear hY
     refine ⟨hPl.low, ?_⟩
     (try simp only [Act.put, List.setIfInBounds_toArray, List.set_cons_succ, List.set_cons_zero])
     refine wpG_one (i := 3) (by kernel_rfl) rfl ?_
     go_wp2_with (first | go_skip | (go_at_call 61; refine (cN.out v1 w30 hOw.out).mono ?_; rintro e w31 ⟨⟨a1, cap1, v, rfl, hp1, ho1, hs1⟩, hO1⟩))
     have hpr := NextPost.res hPl hOw.out (by simp) hp1 ho1 hs1 hO1
     replace hPl := hpr.1
     have hRs := hpr.2
     have hv1 : v.oneCell' = true := ho1.one
     clear hpr hOw hp1 ho1 hs1 hO1
     refine ⟨hPl.low, ?_⟩
     (try simp only [Act.put, List.setIfInBounds_toArray, List.set_cons_succ, List.set_cons_zero])
     refine wpG_put 14 (i := 4) (oi := _) (v := (.tuple #[.agg (hc M.h (.slice a1 M.l.length cap1)), .agg (rc M.code M.n v)])) [4] rfl rfl (by kernel_rfl) (by kernel_rfl) (by kernel_rfl) (by kernel_rfl) (fun _ _ _ h => h) hPl.low ?hy30 ?rs30
     case hy30 => exact Or.inl ⟨by rfl, by intro w' hb; go_simp⟩
     (try simp only [Act.put, List.setIfInBounds_toArray, List.set_cons_succ, List.set_cons_zero])
     refine wpG_put 19 (i := 5) (oi := _) (v := (.agg (hc M.h (.slice a1 M.l.length cap1)))) [5] rfl rfl (by kernel_rfl) (by kernel_rfl) (by kernel_rfl) (by kernel_rfl) (fun _ _ _ h => h) hPl.low ?hy31 ?rs31
     case hy31 => exact Or.inl ⟨by rfl, by intro w' hb; go_simp⟩
     (try simp only [Act.put, List.setIfInBounds_toArray, List.set_cons_succ, List.set_cons_zero])
     refine wpG_put 20 (i := 6) (oi := _) (v := (.agg (rc M.code M.n v))) [6] rfl rfl (by kernel_rfl) (by kernel_rfl) (by kernel_rfl) (by kernel_rfl) (fun _ _ _ h => h) hPl.low ?hy32 ?rs32
     case hy32 => exact Or.inl ⟨by rfl, by intro w' hb; go_simp⟩
     (try simp only [Act.put, List.setIfInBounds_toArray, List.set_cons_succ, List.set_cons_zero])
     have hx := (hPl.box (w27.heap.size, .cells (hc Hs.zero (.slice none 0 0)) 29 (0, 0)) (by simp)).2
     have hy := (hPl.box (wd.heap.size, .cells (rc 0 0 (.slice none 0 0)) 44 (0, 0)) (by simp)).2
     have hxy : w27.heap.size ≠ wd.heap.size := by have := hPl.nodup; simp only [List.map_cons, List.map_nil, List.nodup_cons, List.mem_singleton, List.not_mem_nil, not_false_eq_true, List.nodup_nil, and_true] at this; exact this
     refine wpG_one (i := 9) (by kernel_rfl) rfl ?_
     go_wp2_with (first | go_skip | (refine st_row 29 _ _ rfl rfl _ rfl _ rfl _ _ hx info30 rfl (hc_one _ _ rfl) ?_; intro wa hra hgra hsza))
     refine ⟨(({ hPl with box := by simp, nodup := by simp } : Pool W0 w31 []).only (by exact only_grown hgra) (fun b e => by cases e; exact (hPl.box (w27.heap.size, .cells (hc Hs.zero (.slice none 0 0)) 29 (0, 0)) (by simp)).1) (by simp)).low, ?_⟩
     (try simp only [Act.put, List.setIfInBounds_toArray, List.set_cons_succ, List.set_cons_zero])
     refine wpG_drop 10 rfl (by kernel_rfl) ?_
     simp only [List.drop_succ_cons, List.drop_zero]
     go_wp2_with (first | go_skip | (refine st_row 44 _ _ rfl rfl _ rfl (rc (M).code (M).n v) rfl _ _ ((hgra.block _ (hlt hy) (by simpa using Ne.symm hxy)).trans hy) infoRp rfl (rc_one _ _ _ hv1) ?_; intro wb hrb hgrb hszb))
     go_meet
     case rel => exact ⟨w27.heap.size, wd.heap.size, a1, cap1, v, rfl, rfl, two_of hPl hRs hgra hra hgrb hrb⟩
   ·go_wp2_with (first | go_skip)
    generalize hY : World.alloc w26 _ = w32
    replace hPl : Pool W0 w32 [(w26.heap.size, .cells (hc Hs.zero (.slice none 0 0)) 29 (0, 0)), (wd.heap.size, .cells (rc 0 0 (.slice none 0 0)) 44 (0, 0))] := by rw [← hY]; exact hPl.alloc (.cells (hc Hs.zero (.slice none 0 0)) 29)
    clear hY
    refine ⟨hPl.low, ?_⟩
    (try simp only [Act.put, List.setIfInBounds_toArray, List.set_cons_succ, List.set_cons_zero])
    refine wpG_one (i := 1) (by kernel_rfl) rfl ?_
    have hsw := hPl.low.size
    go_wp2_with (first | go_skip | (go_at_call 51; refine (cC.out w32 hPl.low).mono ?_; rintro e w33 ⟨⟨v1, rfl, hown⟩, hb1⟩))
    replace hPl := hPl.below hb1
    have hOw : RowKit.Hid (OwnPays w33 W0.heap.size v1 l) := Lib.hid (hown.mono hsw)
    clear hown hb1 hsw
    refine ⟨hPl.low, ?_⟩
    (try simp only [Act.put, List.setIfInBounds_toArray, List.set_cons_succ, List.set_cons_zero])
    refine wpG_one (i := 3) (by kernel_rfl) rfl ?_
    go_wp2_with (first | go_skip | (go_at_call 61; refine (cN.out v1 w33 hOw.out).mono ?_; rintro e w34 ⟨⟨a1, cap1, v, rfl, hp1, ho1, hs1⟩, hO1⟩))
    have hpr := NextPost.res hPl hOw.out (by simp) hp1 ho1 hs1 hO1
    replace hPl := hpr.1
    have hRs := hpr.2
    have hv1 : v.oneCell' = true := ho1.one
    clear hpr hOw hp1 ho1 hs1 hO1
    refine ⟨hPl.low, ?_⟩
    (try simp only [Act.put, List.setIfInBounds_toArray, List.set_cons_succ, List.set_cons_zero])
    refine wpG_put 14 (i := 4) (oi := _) (v := (.tuple #[.agg (hc M.h (.slice a1 M.l.length cap1)), .agg (rc M.code M.n v)])) [4] rfl rfl (by kernel_rfl) (by kernel_rfl) (by kernel_rfl) (by kernel_rfl) (fun _ _ _ h => h) hPl.low ?hy33 ?rs33
    case hy33 => exact Or.inl ⟨by rfl, by intro w' hb; go_simp⟩
    (try simp only [Act.put, List.setIfInBounds_toArray, List.set_cons_succ, List.set_cons_zero])
    refine wpG_put 19 (i := 5) (oi := _) (v := (.agg (hc M.h (.slice a1 M.l.length cap1)))) [5] rfl rfl (by kernel_rfl) (by kernel_rfl) (by kernel_rfl) (by kernel_rfl) (fun _ _ _ h => h) hPl.low ?hy34 ?rs34
    case hy34 => exact Or.inl ⟨by rfl, by intro w' hb; go_simp⟩
    (try simp only [Act.put, List.setIfInBounds_toArray, List.set_cons_succ, List.set_cons_zero])
    refine wpG_put 20 (i := 6) (oi := _) (v := (.agg (rc M.code M.n v))) [6] rfl rfl (by kernel_rfl) (by kernel_rfl) (by kernel_rfl) (by kernel_rfl) (fun _ _ _ h => h) hPl.low ?hy35 ?rs35
    case hy35 => exact Or.inl ⟨by rfl, by intro w' hb; go_simp⟩
    (try simp only [Act.put, List.setIfInBounds_toArray, List.set_cons_succ, List.set_cons_zero])
    have hx := (hPl.box (w26.heap.size, .cells (hc Hs.zero (.slice none 0 0)) 29 (0, 0)) (by simp)).2
    have hy := (hPl.box (wd.heap.size, .cells (rc 0 0 (.slice none 0 0)) 44 (0, 0)) (by simp)).2
    have hxy : w26.heap.size ≠ wd.heap.size := by have := hPl.nodup; simp only [List.map_cons, List.map_nil, List.nodup_cons, List.mem_singleton, List.not_mem_nil, not_false_eq_true, List.nodup_nil, and_true] at this; exact this
    refine wpG_one (i := 9) (by kernel_rfl) rfl ?_
    go_wp2_with (first | go_skip | (refine st_row 29 _ _ rfl rfl _ rfl _ rfl _ _ hx info30 rfl (hc_one _ _ rfl) ?_; intro wa hra hgra hsza))
    refine ⟨(({ hPl with box := by simp, nodup := by simp } : Pool W0 w34 []).only (by exact only_grown hgra) (fun b e => by cases e; exact (hPl.box (w26.heap.size, .cells (hc Hs.zero (.slice none 0 0)) 29 (0, 0)) (by simp)).1) (by simp)).low, ?_⟩
    (try simp only [Act.put, List.setIfInBounds_toArray, List.set_cons_succ, List.set_cons_zero])
    refine wpG_drop 10 rfl (by kernel_rfl) ?_
    simp only [List.drop_succ_cons, List.drop_zero]
    go_wp2_with (first | go_skip | (refine st_row 44 _ _ rfl rfl _ rfl (rc (M).code (M).n v) rfl _ _ ((hgra.block _ (hlt hy) (by simpa using Ne.symm hxy)).trans hy) infoRp rfl (rc_one _ _ _ hv1) ?_; intro wb hrb hgrb hszb))
    go_meet
    case rel => exact ⟨w26.heap.size, wd.heap.size, a1, cap1, v, rfl, rfl, two_of hPl hRs hgra hra hgrb hrb⟩
 case rest =>
  obtain ⟨x, y, a1, cap1, v, rfl, rfl, t⟩ := hcut
  obtain ⟨al, cl, rfl, _, hal⟩ := t.ints.at_
  have hAc := hkeep t.low hA
  have hDc := hkeep t.low hD
  have hHc := hkeep t.low hH
  have hRc := hkeep t.low hR
  have hpc := hp0.below t.low
  have hsc := t.low.size
  have hBc := bstep hB hB.size t.low
  have hx := t.hx
  have hy := t.hy
  have hbx := t.bx
  have hby := t.yb
  have hxy := t.ne
  clear hA hD hH hR hp0 hB cC cN
  have cY := cells_at hy
  have cD := cells_at hDc
  replace hal := Lib.hid hal
  by_cases e0 : M.code = 0
  ·have q0 : (M.code == 0) = true := by rw [beq_iff_eq]; exact e0
   replace e0 := Lib.hid e0
   by_cases e9 : d.kind = 9
   ·have q9 : (d.kind == 9) = true := by rw [beq_iff_eq]; exact e9
    have eX : endL d.kind h l M = M := by unfold endL; rw [if_neg (by simpa using e0.out), if_pos e9]
    replace e9 := Lib.hid e9
    replace eX := Lib.hid eX
    go_upto_region 10 with fail
    have hHd : wc.drew.heap[w.heap.size + 2]? = _ := hHc
    have hRd : wc.drew.heap[w.heap.size + 3]? = _ := hRc
    have hxd : wc.drew.heap[x]? = some (.cells (hc M.h (.slice a1 M.l.length cap1)) 29 (0, 0)) := hx
    have hyd : wc.drew.heap[y]? = some (.cells (rc M.code M.n (.slice al (nats M.done).length cl)) 44 (0, 0)) := hy
    refine wpG_start (fun w' : World => w'.heap[x]? = some (.cells (hc M.h (.slice a1 M.l.length cap1)) 29 (0, 0)) ∧ w'.heap[y]? = some (.cells (rc M.code M.n (.slice al (nats M.done).length cl)) 44 (0, 0))) 3 (by kernel_rfl) ?_
    have hI0 : (fun w' : World => w'.heap[x]? = some (.cells (hc M.h (.slice a1 M.l.length cap1)) 29 (0, 0)) ∧ w'.heap[y]? = some (.cells (rc M.code M.n (.slice al (nats M.done).length cl)) 44 (0, 0))) wc.drew := ⟨hxd, hyd⟩
    refine wpG_put 41 (i := 0) (oi := _) (v := (.agg (hc M.h (.slice a1 M.l.length cap1)))) [0] rfl rfl (by kernel_rfl) (by kernel_rfl) (by kernel_rfl) (by kernel_rfl) (fun _ _ _ h => h) hI0 ?hy36 ?rs36
    case hy36 => exact yields_row 29 _ rfl rfl _ rfl _ _ _ _ (fun w' hb => hb.1) Try.underlying29 rfl info30
    (try simp only [Act.put, List.setIfInBounds_toArray, List.set_cons_succ, List.set_cons_zero])
    refine wpG_put 42 (i := 1) (oi := _) (v := (.agg (rc M.code M.n (.slice al (nats M.done).length cl)))) [1] rfl rfl (by kernel_rfl) (by kernel_rfl) (by kernel_rfl) (by kernel_rfl) (fun _ _ _ h => h) hI0 ?hy37 ?rs37
    case hy37 => exact yields_row 44 _ rfl rfl _ rfl _ _ _ _ (fun w' hb => hb.2) Try.underlying44 rfl infoRp
    (try simp only [Act.put, List.setIfInBounds_toArray, List.set_cons_succ, List.set_cons_zero])
    clear hI0
    refine wpG_one (i := 2) (by kernel_rfl) rfl ?_
    go_wp2_with (first | go_skip | (refine st_row 29 _ _ rfl rfl _ rfl _ rfl _ _ hHd info30 rfl (hc_one _ _ rfl) ?_; intro wa hra hgra hsza))
    refine ⟨⟨(hgra.block _ (hlt hxd) (by simp; omega)).trans hxd, (hgra.block _ (hlt hyd) (by simp; omega)).trans hyd⟩, ?_⟩
    (try simp only [Act.put, List.setIfInBounds_toArray, List.set_cons_succ, List.set_cons_zero])
    refine wpG_drop 3 rfl (by kernel_rfl) ?_
    simp only [List.drop_succ_cons, List.drop_zero]
    go_wp2_with (first | go_skip | (refine st_row 44 _ _ rfl rfl _ rfl (rc M.code M.n (.slice al (nats M.done).length cl)) rfl _ _ ((hgra.block _ (hlt hRd) (by simp)).trans hRd) infoRp rfl (rc_one _ _ _ rfl) ?_; intro wb hrb hgrb hszb))
    exact bodyPost_ret (results_hr rfl _ _ _ _ _ _ _ _ _ rfl rfl ((hgrb.block _ (hlt hra) (by simp)).trans hra) hrb) rfl (by rw [eX.out]; exact nexts_end (X := M) rfl hBc.drew hgra hgrb (t.pays.below (Below.refl _ _).drew) (fun hl b off s e => by have hs := t.src hl b off s e; have h1 := hs.1.resolve_left id; exact ⟨.inr (by omega), by omega, by omega, hs.2.1⟩) ((t.ints.below (Below.refl _ _).drew).mono (by omega)) (fun k hk => by have h1 := t.ints.own hk; omega))
   ·have q9 : (d.kind == 9) = false := by rw [beq_eq_false_iff_ne]; exact e9
    have eX : endL d.kind h l M = .swept M.h M.l M.n M.done := by unfold endL; rw [if_neg (by simpa using e0.out), if_neg e9]
    have cS := fun w hp => sweep_anyS M.h M.l a1 cap1 w hp
    obtain ⟨T, hT⟩ : ∃ T, sweepG M.h M.l = T := ⟨_, rfl⟩
    rw [hT] at cS
    have eX2 : endL d.kind h l M = ⟨T.h, T.l, M.code, M.n, M.done ++ T.d⟩ := by rw [eX, e0.out, ← hT]; rfl
    replace eX := Lib.hid eX2
    replace cS := Lib.hid cS
    clear eX2
    replace e9 := Lib.hid e9
    replace hT := Lib.hid hT
    go_upto_region 9 with (first | go_skip | (refine ld_row 29 _ rfl rfl _ rfl _ _ _ _ hx Try.underlying29 rfl info30 ?_) | (go_at_call 62; refine (cS.out _ t.pays).mono ?_; rintro e w2 ⟨⟨a2, cap2, v2, rfl, hp2, ho2, hfa, hap⟩, hb2⟩) | (refine st_row 29 _ _ rfl rfl _ rfl _ rfl _ _ (hkeep hb2 hx) info30 rfl (hc_one _ _ rfl) ?_; intro w3 hr3 hgr3 hsz3))
    have hlT : T.l.length = M.l.length := by rw [← hT.out]; exact (sweep_ext M.h M.l).len
    have hdT : T.d.length ≤ M.l.length := by rw [← hT.out]; exact ext_le (sweep_ext M.h M.l)
    have hfb : 0 < T.l.length → ∀ b off s, a2 = some ⟨b, off, s⟩ → (W0.heap.size ≤ b ∧ b ≠ x ∧ b ≠ y ∧ (Value.slice al (nats M.done).length cl).ownBlock ≠ some b) := fun hl b off s e => by
     rcases hfa b off s e with ⟨off', s', e'⟩ | hge
     ·have hs := t.src (by omega) b off' s' e'
      exact ⟨hs.1.resolve_left id, hs.2.2.1, hs.2.2.2, hs.2.1⟩
     ·have h1 := hlt hx
      have h2 := hlt hy
      exact ⟨by omega, by omega, by omega, fun e => by have := ints_own_lt t.ints e; omega⟩
    have hxl := hlt hx
    have hyl := hlt hy
    have hp3 := payN hp2 hgr3 fun hl b off s e => (hfb hl b off s e).2.1
    have ho3 : OwnInts w3 wc.heap.size v2 (nats T.d) := ho2.grownN hgr3 fun k hk => by have := ho2.own hk; omega
    have hv3 : OwnInts w3 W0.heap.size (.slice al (nats M.done).length cl) (nats M.done) := (t.ints.below hb2).grownN hgr3 fun k hk e => t.list.1 (e ▸ hk)
    have hy3 := (hgr3.block y (hlt (hkeep hb2 hy)) (by simp; omega)).trans (hkeep hb2 hy)
    have hH3 := (hgr3.block _ (hlt (hkeep hb2 hHc)) (by simp; omega)).trans (hkeep hb2 hHc)
    have hR3 := (hgr3.block _ (hlt (hkeep hb2 hRc)) (by simp; omega)).trans (hkeep hb2 hRc)
    have hB3 := (only_new (av := fun b => w.heap.size ≤ b) (bstep hBc hBc.size hb2)).step (only_grown hgr3) fun b e => by cases e; left; omega
    have h23 := hgr3.size
    have hb2s := hb2.size
    have hdM : (nats M.done).length ≤ 24 := by rw [nats_len, ← hM.out]; exact Nat.le_trans (mid_small h l d).1 g.len
    have hlM : M.l.length ≤ 25 := by rw [← hM.out]; have := (mid_small h l d).2; have := g.len; omega
    have hdT2 : (nats T.d).length ≤ 25 := by rw [nats_len]; omega
    have cY3 := cells_at hy3
    clear hb2 hgr3 cY hy hx hHc hRc
    replace hv3 := Lib.hid hv3
    replace ho3 := Lib.hid ho3
    replace ho2 := Lib.hid ho2
    replace hfb := Lib.hid hfb
    go_upto_region 9 with fail
    go_upto_region 10 with (first | go_skip | (at_builtin; refine wpList_append_ints rfl _ _ rfl W0.heap.size wc.heap.size (.slice al (nats M.done).length cl) v2 (nats M.done) (nats T.d) rfl rfl hv3.out ho3.out (by omega) (by omega) ?_))
    intro v3 w4 ho4 hgr4 hfr4
    obtain ⟨a3, c3, rfl, _, _⟩ := ho4.at_
    generalize (nats M.done ++ nats T.d).length = n3 at *
    replace hlT := Lib.hid hlT
    have hn4 : ∀ b, W0.heap.size ≤ b ∨ b < W0.heap.size → (Value.slice al (nats M.done).length cl).ownBlock ≠ some b → some b ≠ (Value.slice al (nats M.done).length cl).ownBlock := fun b _ h e => h e.symm
    have hy4 := (hgr4.block y (hlt hy3) fun e => t.list.2 e.symm).trans hy3
    have hx4 := (hgr4.block x (hlt hr3) fun e => t.list.1 e.symm).trans hr3
    have hH4 := (hgr4.block _ (hlt hH3) fun e => by have := t.ints.own e.symm; omega).trans hH3
    have hR4 := (hgr4.block _ (hlt hR3) fun e => by have := t.ints.own e.symm; omega).trans hR3
    have hp4 := (only_grown hgr4).pays hp3 fun hl b off s e => (hfb.out hl b off s e).2.2.2
    have hB4 := hB3.step (only_grown hgr4) fun b e => by have := t.ints.own e; left; omega
    have hne3 : ∀ k, (Value.slice a3 n3 c3).ownBlock = some k → W0.heap.size ≤ k ∧ k ≠ x ∧ k ≠ y ∧ ∀ (b off : Nat) (s : Option Nat), 0 < T.l.length → a2 = some ⟨b, off, s⟩ → k ≠ b := fun k hk => by
     rcases hfr4 k hk with h1 | h1
     ·exact ⟨t.ints.own h1, fun e => t.list.1 (e ▸ h1), fun e => t.list.2 (e ▸ h1), fun b off s hl e e' => (hfb.out hl b off s e).2.2.2 (e' ▸ h1)⟩
     ·have hlx := hlt hr3
      have hly := hlt hy3
      refine ⟨by omega, by omega, by omega, fun b off s hl e e' => ?_⟩
      obtain ⟨b', off', e2, hbl, _⟩ := hp3.row hl
      rw [e] at e2; cases e2; omega
    have fY := frozenAt hy4
    have cY4 := cells_at hy4
    have hy5 : (w4.setCell ⟨y, 2, none⟩ (.slice a3 n3 c3)).heap[y]? = some (.cells (rc M.code M.n (.slice a3 n3 c3)) 44 (0, 0)) := hsetSame (i := 2) hy4 _
    have hx5 := hsetOther (i := 2) hx4 (by omega : x ≠ y) (.slice a3 n3 c3)
    have hH5 := hsetOther (i := 2) hH4 (by omega : w.heap.size + 2 ≠ y) (.slice a3 n3 c3)
    have hR5 := hsetOther (i := 2) hR4 (by omega : w.heap.size + 3 ≠ y) (.slice a3 n3 c3)
    have hp5 := (only_set y 2 (.slice a3 n3 c3) w4).pays hp4 fun hl b off s e => (hfb.out hl b off s e).2.2.1
    have ho5 := (only_set y 2 (.slice a3 n3 c3) w4).ints ho4 fun k hk => (hne3 k hk).2.2.1
    have hB5 := (hB4.step (only_set y 2 (.slice a3 n3 c3) w4) fun b e => by left; omega).below (Nat.le_refl _) fun _ h => h
    replace ho5 := Lib.hid ho5
    replace ho4 := Lib.hid ho4
    replace hne3 := Lib.hid hne3
    clear hn4 hB3 hB4 hp3 hp4 hgr4 hfr4 hv3 ho3 hy3 hr3 hH3 hR3 cY3
    replace hy5 := Lib.hid hy5
    replace hx5 := Lib.hid hx5
    replace hH5 := Lib.hid hH5
    replace hR5 := Lib.hid hR5
    go_upto_region 10 with fail
    replace hy5 := hy5.out
    replace hx5 := hx5.out
    replace hH5 := hH5.out
    replace hR5 := hR5.out
    generalize World.setCell w4 _ _ = w5 at *
    have hHd : w5.drew.heap[w.heap.size + 2]? = _ := hH5
    have hRd : w5.drew.heap[w.heap.size + 3]? = _ := hR5
    have hxd : w5.drew.heap[x]? = some (.cells (hc T.h (.slice a2 T.l.length cap2)) 29 (0, 0)) := hx5
    have hyd : w5.drew.heap[y]? = some (.cells (rc M.code M.n (.slice a3 n3 c3)) 44 (0, 0)) := hy5
    refine wpG_start (fun w' : World => w'.heap[x]? = some (.cells (hc T.h (.slice a2 T.l.length cap2)) 29 (0, 0)) ∧ w'.heap[y]? = some (.cells (rc M.code M.n (.slice a3 n3 c3)) 44 (0, 0))) 3 (by kernel_rfl) ?_
    have hI0 : (fun w' : World => w'.heap[x]? = some (.cells (hc T.h (.slice a2 T.l.length cap2)) 29 (0, 0)) ∧ w'.heap[y]? = some (.cells (rc M.code M.n (.slice a3 n3 c3)) 44 (0, 0))) w5.drew := ⟨hxd, hyd⟩
    refine wpG_put 41 (i := 0) (oi := _) (v := (.agg (hc T.h (.slice a2 T.l.length cap2)))) [0] rfl rfl (by kernel_rfl) (by kernel_rfl) (by kernel_rfl) (by kernel_rfl) (fun _ _ _ h => h) hI0 ?hy38 ?rs38
    case hy38 => exact yields_row 29 _ rfl rfl _ rfl _ _ _ _ (fun w' hb => hb.1) Try.underlying29 rfl info30
    (try simp only [Act.put, List.setIfInBounds_toArray, List.set_cons_succ, List.set_cons_zero])
    refine wpG_put 42 (i := 1) (oi := _) (v := (.agg (rc M.code M.n (.slice a3 n3 c3)))) [1] rfl rfl (by kernel_rfl) (by kernel_rfl) (by kernel_rfl) (by kernel_rfl) (fun _ _ _ h => h) hI0 ?hy39 ?rs39
    case hy39 => exact yields_row 44 _ rfl rfl _ rfl _ _ _ _ (fun w' hb => hb.2) Try.underlying44 rfl infoRp
    (try simp only [Act.put, List.setIfInBounds_toArray, List.set_cons_succ, List.set_cons_zero])
    clear hI0
    refine wpG_one (i := 2) (by kernel_rfl) rfl ?_
    go_wp2_with (first | go_skip | (refine st_row 29 _ _ rfl rfl _ rfl _ rfl _ _ hHd info30 rfl (hc_one _ _ rfl) ?_; intro wa hra hgra hsza))
    refine ⟨⟨(hgra.block _ (hlt hxd) (by simp; omega)).trans hxd, (hgra.block _ (hlt hyd) (by simp; omega)).trans hyd⟩, ?_⟩
    (try simp only [Act.put, List.setIfInBounds_toArray, List.set_cons_succ, List.set_cons_zero])
    refine wpG_drop 3 rfl (by kernel_rfl) ?_
    simp only [List.drop_succ_cons, List.drop_zero]
    go_wp2_with (first | go_skip | (refine st_row 44 _ _ rfl rfl _ rfl (rc M.code M.n (.slice a3 n3 c3)) rfl _ _ ((hgra.block _ (hlt hRd) (by simp)).trans hRd) infoRp rfl (rc_one _ _ _ rfl) ?_; intro wb hrb hgrb hszb))
    exact bodyPost_ret (results_hr rfl _ _ _ _ _ _ _ _ _ rfl rfl ((hgrb.block _ (hlt hra) (by simp)).trans hra) hrb) rfl (by rw [eX.out]; exact nexts_end (X := ⟨T.h, T.l, M.code, M.n, M.done ++ T.d⟩) rfl hB5.drew hgra hgrb (hp5.below (Below.refl _ _).drew) (fun hl b off s e => by have hs := hfb.out hl b off s e; exact ⟨.inr (by omega), by omega, by omega, fun e' => (hne3.out b e').2.2.2 b off s hl e rfl⟩) ((by rw [nats_app]; exact (ho5.out.below (Below.refl _ _).drew).mono (by omega))) (fun k hk => by have h1 := (hne3.out k hk).1; omega))
  ·have q0 : (M.code == 0) = false := by rw [beq_eq_false_iff_ne]; exact e0
   have eX : endL d.kind h l M = .err h l M.code := by unfold endL; rw [if_pos e0]
   replace e0 := Lib.hid e0
   replace eX := Lib.hid eX
   go_upto_region 5 with fail
   have hHd : wc.drew.heap[w.heap.size + 2]? = _ := hHc
   have hRd : wc.drew.heap[w.heap.size + 3]? = _ := hRc
   have hAd : wc.drew.heap[w.heap.size]? = some (.cells (hc h (.slice a0 l.length cap0)) 29 (0, 0)) := hAc
   have hyd : wc.drew.heap[y]? = some (.cells (rc M.code M.n (.slice al (nats M.done).length cl)) 44 (0, 0)) := hy
   have hcI : ∀ w' : World, (fun w' : World => w'.heap[w.heap.size]? = some (.cells (hc h (.slice a0 l.length cap0)) 29 (0, 0)) ∧ w'.heap[y]? = some (.cells (rc M.code M.n (.slice al (nats M.done).length cl)) 44 (0, 0))) w' → w'.cell? ⟨y, 0, none⟩ = some (.int .i64 M.code) := fun w' hb => cells_at hb.2 0
   replace hcI := Lib.hid hcI
   refine wpG_start (fun w' : World => w'.heap[w.heap.size]? = some (.cells (hc h (.slice a0 l.length cap0)) 29 (0, 0)) ∧ w'.heap[y]? = some (.cells (rc M.code M.n (.slice al (nats M.done).length cl)) 44 (0, 0))) 5 (by kernel_rfl) ?_
   have hI0 : (fun w' : World => w'.heap[w.heap.size]? = some (.cells (hc h (.slice a0 l.length cap0)) 29 (0, 0)) ∧ w'.heap[y]? = some (.cells (rc M.code M.n (.slice al (nats M.done).length cl)) 44 (0, 0))) wc.drew := ⟨hAd, hyd⟩
   refine wpG_put 24 (i := 0) (oi := _) (v := (.agg (hc h (.slice a0 l.length cap0)))) [0] rfl rfl (by kernel_rfl) (by kernel_rfl) (by kernel_rfl) (by kernel_rfl) (fun _ _ _ h => h) hI0 ?hy40 ?rs40
   case hy40 => exact yields_row 29 _ rfl rfl _ rfl _ _ _ _ (fun w' hb => hb.1) Try.underlying29 rfl info30
   (try simp only [Act.put, List.setIfInBounds_toArray, List.set_cons_succ, List.set_cons_zero])
   refine wpG_put 25 (i := 1) (oi := _) (v := (.pointer (some ⟨y, 0, none⟩))) [1] rfl rfl (by kernel_rfl) (by kernel_rfl) (by kernel_rfl) (by kernel_rfl) (fun _ _ _ h => h) hI0 ?hy41 ?rs41
   case hy41 => exact Or.inl ⟨by rfl, by intro w' hb; have c1 := hcI.out w' hb; go_simp⟩
   (try simp only [Act.put, List.setIfInBounds_toArray, List.set_cons_succ, List.set_cons_zero])
   refine wpG_put 26 (i := 2) (oi := _) (v := (.int .i64 M.code)) [2] rfl rfl (by kernel_rfl) (by kernel_rfl) (by kernel_rfl) (by kernel_rfl) (fun _ _ _ h => h) hI0 ?hy42 ?rs42
   case hy42 => exact Or.inl ⟨by rfl, by intro w' hb; have c1 := hcI.out w' hb; go_simp⟩
   (try simp only [Act.put, List.setIfInBounds_toArray, List.set_cons_succ, List.set_cons_zero])
   refine wpG_put 27 (i := 3) (oi := _) (v := (.agg (rc M.code 0 (.slice none 0 0)))) [3] rfl rfl (by kernel_rfl) (by kernel_rfl) (by kernel_rfl) (by kernel_rfl) (fun _ _ _ h => h) hI0 ?hy43 ?rs43
   case hy43 => exact Or.inl ⟨by rfl, by intro w' hb; have c1 := hcI.out w' hb; go_simp; first | done | rfl⟩
   (try simp only [Act.put, List.setIfInBounds_toArray, List.set_cons_succ, List.set_cons_zero])
   clear hI0
   refine wpG_one (i := 4) (by kernel_rfl) rfl ?_
   go_wp2_with (first | go_skip | (refine st_row 29 _ _ rfl rfl _ rfl _ rfl _ _ hHd info30 rfl (hc_one _ _ rfl) ?_; intro wa hra hgra hsza))
   refine ⟨⟨(hgra.block _ (hlt hAd) (by simp; omega)).trans hAd, (hgra.block _ (hlt hyd) (by simp; omega)).trans hyd⟩, ?_⟩
   (try simp only [Act.put, List.setIfInBounds_toArray, List.set_cons_succ, List.set_cons_zero])
   refine wpG_drop 5 rfl (by kernel_rfl) ?_
   simp only [List.drop_succ_cons, List.drop_zero]
   go_wp2_with (first | go_skip | (refine st_row 44 _ _ rfl rfl _ rfl (rc M.code 0 (.slice none 0 0)) rfl _ _ ((hgra.block _ (hlt hRd) (by simp)).trans hRd) infoRp rfl (rc_one _ _ _ rfl) ?_; intro wb hrb hgrb hszb))
   exact bodyPost_ret (results_hr rfl _ _ _ _ _ _ _ _ _ rfl rfl ((hgrb.block _ (hlt hra) (by simp)).trans hra) hrb) rfl (by rw [eX.out]; exact nexts_end (X := .err h l M.code) rfl hBc.drew hgra hgrb (hpc.below (Below.refl _ _).drew) (fun hl b off s e => ⟨.inl ⟨rfl, e0.out⟩, by have := hpl.out hl b off s e; omega, by have := hpl.out hl b off s e; omega, by simp [Value.ownBlock]⟩) (OwnInts.nil _ _) (fun x hx => by simp [Value.ownBlock] at hx))
/-- bank.Next: whatever the house and the act. -/
theorem nexts_any (h : Hs) (l : List Pay) (a0 : Option Addr) (cap0 : Nat) (d : Deed) (w : World) (hp : PaysAt w a0 cap0 l) :
  Calls Try.prog 34 #[.agg (hc h (.slice a0 l.length cap0)), .agg (dc d)] w (NextsPost a0 (nextL h l d) w) := by
 cases hg : goodB h l with
 | false => rw [next_bad hg]; exact nexts_bad h l a0 cap0 d w hp hg
 | true => rw [next_mid hg]; exact nexts_good h l a0 cap0 d w hp (goodB_true hg) hg
end Go.Proofs.Ytggfdkkhlokmlab


