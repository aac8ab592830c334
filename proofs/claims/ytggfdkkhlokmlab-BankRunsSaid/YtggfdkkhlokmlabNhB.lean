/- The reference's NextHouse: credit limit fund spend. -/
import Derived.Test.YtggfdkkhlokmlabNextH
set_option linter.unusedSimpArgs false
namespace Go.Proofs.Ytggfdkkhlokmlab
open Go.RowKit
attribute [local go_sem] hc_pays hc_next hc_size pc_size rc_0 rc_1 rc_2 rc_size dc_0 dc_1 dc_2 dc_3 dc_4 dc_size
set_option maxRecDepth 100000 in
set_option maxHeartbeats 64000000 in
theorem nh_B (h : Hs) (l : List Pay) (a0 : Option Addr) (cap0 : Nat) (k a b c n : Int) (w : World) (hp : PaysAt w a0 cap0 l) (g : GoodP h l) (hgb : goodB h l = true) (hk : k = 4 ∨ k = 5 ∨ k = 6 ∨ k = 7) :
  Calls Try.prog 35 #[.agg (hc h (.slice a0 l.length cap0)), .agg (dc ⟨k, a, b, c, n⟩)] w (NextsPost a0 (nextL h l ⟨k, a, b, c, n⟩) w) := by
 have hpl : 0 < l.length → ∀ b off s, a0 = some ⟨b, off, s⟩ → b < w.heap.size := fun hl b off s e => by
  obtain ⟨b', off', e', hbl, _⟩ := hp.row hl
  rw [e] at e'; cases e'; exact hbl
 have hlen := g.len
 have hroom := g.room
 have hnx := sm_true g.next
 replace hp := Lib.hid hp
 replace hpl := Lib.hid hpl
 replace hgb := Lib.hid hgb
 go_enter Try.func35, Try.ntmps35
 go_upto_region 1 with fail
 generalize hW : World.alloc (World.alloc (World.alloc (World.alloc w _) _) _) _ = W0
 obtain ⟨hA, hD, hH, hR, hB⟩ : W0.heap[w.heap.size]? = some (.cells (hc h (.slice a0 l.length cap0)) 29 (0, 0)) ∧ W0.heap[w.heap.size + 1]? = some (.cells (dc ⟨k, a, b, c, n⟩) 40 (0, 0)) ∧ W0.heap[w.heap.size + 2]? = some (.cells (hc Hs.zero (.slice none 0 0)) 29 (0, 0)) ∧ W0.heap[w.heap.size + 3]? = some (.cells (rc 0 0 (.slice none 0 0)) 44 (0, 0)) ∧ Below w.heap.size w W0 := by rw [← hW]; exact four4 w _ _ _ _
 have hp0 := hp.out.below hB
 have hsz : w.heap.size + 4 = W0.heap.size := by rw [← hW]; simp
 clear hW
 go_upto_region 4 with (first | go_skip | (refine ld_row 29 _ rfl rfl _ rfl _ _ _ _ hA Try.underlying29 rfl info30 ?_) | (go_at_call 64; refine (isHouse_any h l _ cap0 _ hp0).mono ?_; rintro e w1 ⟨rfl, hb1⟩; rw [hgb.out]))
 replace hA := hkeep hb1 hA
 replace hD := hkeep hb1 hD
 replace hH := hkeep hb1 hH
 replace hR := hkeep hb1 hR
 replace hp0 := hp0.below hb1
 have hsz1 : w.heap.size + 4 ≤ w1.heap.size := by have := hb1.size; omega
 replace hB := bstep hB hB.size hb1
 clear hb1 hsz
 go_upto_region 5 with (first | go_skip | (refine ld_row 29 _ rfl rfl _ rfl _ _ _ _ hA Try.underlying29 rfl info30 ?_) | (go_at_call 33; refine (copyHouse_any h l _ cap0 _ hp0).mono ?_; rintro e w2 ⟨⟨v1, rfl, hown⟩, hb2⟩; obtain ⟨a1, cap1, rfl, hp1, hpb1⟩ := hown.at_) | (refine st_new 29 _ _ rfl _ 29 _ rfl rfl rfl (hc h (.slice a1 l.length cap1)) rfl info30 rfl (hc_one _ _ rfl) ?_))
 have hX := hnew w2 (.cells (hc h (.slice a1 l.length cap1)) 29)
 have hL := hb2.alloc hb2.size (.cells (hc h (.slice a1 l.length cap1)) 29)
 have hown3 := hown.below ((Below.refl _ _).alloc (Nat.le_refl _) (.cells (hc h (.slice a1 l.length cap1)) 29))
 have hxs := hb2.size
 have hx3 : (w2.alloc (.cells (hc h (.slice a1 l.length cap1)) 29)).heap.size = w2.heap.size + 1 := by simp
 have hob : ∀ x, (Value.slice a1 l.length cap1).ownBlock = some x → x < w2.heap.size := fun x hx => (pays_own hown hx).2.1
 replace hA := hkeep hL hA
 replace hD := hkeep hL hD
 replace hH := hkeep hL hH
 replace hR := hkeep hL hR
 replace hp0 := hp0.below hL
 replace hB := bstep hB hB.size hL
 generalize w2.alloc (.cells (hc h (.slice a1 l.length cap1)) 29) = w3 at *
 generalize w2.heap.size = bx at *
 clear hown hp1 hb2 hpb1
 simp only [Act.put]
 go_upto_region 6 with fail
 generalize hW4 : World.alloc w3 _ = w4
 have hY : w4.heap[w3.heap.size]? = some (.cells (rc 0 0 (.slice none 0 0)) 44 (0, 0)) := by rw [← hW4]; exact hnew w3 _
 have hb4 : Below w3.heap.size w3 w4 := by rw [← hW4]; exact (Below.refl _ _).alloc (Nat.le_refl _) _
 replace hA := hkeep hb4 hA
 replace hD := hkeep hb4 hD
 replace hH := hkeep hb4 hH
 replace hR := hkeep hb4 hR
 replace hX := hkeep hb4 hX
 replace hp0 := hp0.below hb4
 replace hB := bstep hB hB.size hb4
 replace hL := bstep hL hL.size hb4
 have hown := hown3.below hb4
 clear hW4 hown3 hb4
 rw [hx3] at *
 have cA := cells_at hA
 have cD := cells_at hD
 replace hown := Lib.hid hown
 replace hob := Lib.hid hob
 go_upto_region 7 with (first | go_skip | (go_at_call 59; refine (within_any _ _ _ _).mono ?_; rintro e w' ⟨rfl, rfl⟩))
 go_cut [10] from 29 to 51 (fun s10 wx => s10 = .bool (waitsAt l a) ∧ w4 = wx)
 case first =>
  by_cases ha : 0 ≤ a ∧ a < l.length
  ·obtain ⟨i, rfl⟩ : ∃ i : Nat, a = i := ⟨a.toNat, by omega⟩
   obtain ⟨b1, o1, rfl, _, hc1⟩ := hp0.row (by omega)
   have hil : i < l.length := by omega
   obtain ⟨s0, hs0⟩ : ∃ s0, (payAt l i).st = s0 := ⟨_, rfl⟩
   have hcj : w4.cell? ⟨b1, o1 + i * 6 + 4, none⟩ = some (.int .i64 s0) := by rw [← hs0, Nat.add_assoc]; exact hc1 i (payAt l i) (payAt_get hil) 4 _ rfl
   have hs : sm 0 (i : Int) ((l.length : Int) - 1) = true := sm_yes (by omega)
   have hmx : max (i : Int) 0 = (i : Int) := by omega
   have hmn : min (i : Int) ((l.length : Int) - 1) = (i : Int) := by omega
   have hw : waitsAt l (i : Int) = (s0 == 1) := by
    rw [← hs0, Bool.eq_iff_iff, waitsAt_iff, beq_iff_eq, Int.toNat_natCast]
    exact ⟨fun h => h.2.2, fun h => ⟨by omega, by omega, h⟩⟩
   have hili : (i : Int) < (l.length : Int) := by omega
   have hli : (l.length : Int) ≤ 24 := by omega
   clear hc1
   replace hs0 := Lib.hid hs0
   replace hw := Lib.hid hw
   go_wp2_with (first | go_skip | (go_at_call 59; refine (within_any _ _ _ _).mono ?_; rintro e w' ⟨rfl, rfl⟩; first | rw [hs]))
   go_meet
   case rel => exact ⟨by rw [hw.out], rfl⟩
  ·have hs : sm 0 a ((l.length : Int) - 1) = false := by
    simp only [sm, decide_eq_false_iff_not]; omega
   have hw : waitsAt l a = false := by
    simp only [waitsAt, decide_eq_false_iff_not]; omega
   have hli : (l.length : Int) ≤ 24 := by omega
   replace hw := Lib.hid hw
   go_wp2_with (first | go_skip | (go_at_call 59; refine (within_any _ _ _ _).mono ?_; rintro e w' ⟨rfl, rfl⟩; first | rw [hs]))
   go_meet
   case rel => exact ⟨by rw [hw.out], rfl⟩
 case rest =>
 obtain ⟨rfl, rfl⟩ := hcut
 rcases hk with rfl | rfl | rfl | rfl
 ·by_cases e1 : sm 0 a 3 = false
  ·have eN : nextL h l ⟨4, a, b, c, n⟩ = .err h l 3 := nl_cre1 hgb.out rfl (.inl e1)
   replace eN := Lib.hid eN
   go_wp2_with (first | go_skip | (go_at_call 63; refine (refNo_any h _ rfl 3 w.heap.size _ hA).mono ?_; rintro e wn ⟨rfl, hbn⟩) | (refine st_row 29 _ _ rfl rfl _ rfl _ rfl _ _ (hkeep hbn hH) info30 rfl (hc_one _ _ rfl) ?_; intro wa hra hgra hsza) | (refine st_row 44 _ _ rfl rfl _ rfl (rc 3 0 (.slice none 0 0)) rfl _ _ ((hgra.block _ (hlt (hkeep hbn hR)) (by simp)).trans (hkeep hbn hR)) infoRp rfl (rc_one _ _ _ rfl) ?_; intro wb hrb hgrb hszb))
   exact bodyPost_ret (results_hr rfl _ _ _ _ _ _ _ _ _ rfl rfl ((hgrb.block _ (hlt hra) (by simp)).trans hra) hrb) rfl (by rw [eN.out]; exact nexts_end (X := .err h l 3) rfl (bstep hB hB.size hbn) hgra hgrb (hp0.below hbn) (fun hl b off s e => ⟨.inl ⟨rfl, by simp [Nx.err]⟩, by have := hpl.out hl b off s e; omega, by have := hpl.out hl b off s e; omega, by simp [Value.ownBlock]⟩) (OwnInts.nil _ _) (fun x hx => by simp [Value.ownBlock] at hx))
  have e1 : sm 0 a 3 = true := by simpa using e1
  by_cases e2 : sm 0 n 1000000 = false
  ·have eN : nextL h l ⟨4, a, b, c, n⟩ = .err h l 3 := nl_cre1 hgb.out rfl (.inr e2)
   replace eN := Lib.hid eN
   go_wp2_with (first | go_skip | (go_at_call 59; refine (within_any _ _ _ _).mono ?_; rintro e w' ⟨rfl, rfl⟩; first | rw [e2]) | (go_at_call 63; refine (refNo_any h _ rfl 3 w.heap.size _ hA).mono ?_; rintro e wn ⟨rfl, hbn⟩) | (refine st_row 29 _ _ rfl rfl _ rfl _ rfl _ _ (hkeep hbn hH) info30 rfl (hc_one _ _ rfl) ?_; intro wa hra hgra hsza) | (refine st_row 44 _ _ rfl rfl _ rfl (rc 3 0 (.slice none 0 0)) rfl _ _ ((hgra.block _ (hlt (hkeep hbn hR)) (by simp)).trans (hkeep hbn hR)) infoRp rfl (rc_one _ _ _ rfl) ?_; intro wb hrb hgrb hszb))
   exact bodyPost_ret (results_hr rfl _ _ _ _ _ _ _ _ _ rfl rfl ((hgrb.block _ (hlt hra) (by simp)).trans hra) hrb) rfl (by rw [eN.out]; exact nexts_end (X := .err h l 3) rfl (bstep hB hB.size hbn) hgra hgrb (hp0.below hbn) (fun hl b off s e => ⟨.inl ⟨rfl, by simp [Nx.err]⟩, by have := hpl.out hl b off s e; omega, by have := hpl.out hl b off s e; omega, by simp [Value.ownBlock]⟩) (OwnInts.nil _ _) (fun x hx => by simp [Value.ownBlock] at hx))
  have e2 : sm 0 n 1000000 = true := by simpa using e2
  obtain ⟨q0, q1⟩ := sm_true e1
  have q2 : a < 4 := by omega
  have fX := frozenAt hX
  have cX : w4.cell? ⟨bx, a.toNat * 2 + 1, none⟩ = some (.int .i64 (h.cr a)) := (cells_at hX _).trans (hc_cr h _ a q0 q2)
  have hset := hsetSame (i := a.toNat * 2 + 1) hX (.int .i64 n)
  rw [hc_setCr _ _ _ _ q0 q2] at hset
  replace hset := Lib.hid hset
  go_upto_region 62 with (first | go_skip | (go_at_call 59; refine (within_any _ _ _ _).mono ?_; rintro e w' ⟨rfl, rfl⟩; first | rw [e2]))
  clear cX fX cA cD
  generalize hWs : World.setCell w4 _ _ = wq
  have hXq : wq.heap[bx]? = some (.cells (hc (h.setCr a n) (.slice a1 l.length cap1)) 29 (0, 0)) := by rw [← hWs]; exact hset.out
  have hYq : wq.heap[bx + 1]? = some (.cells (rc 0 0 (.slice none 0 0)) 44 (0, 0)) := by rw [← hWs]; exact hsetOther hY (by omega) _
  have hHq : wq.heap[w.heap.size + 2]? = some (.cells (hc Hs.zero (.slice none 0 0)) 29 (0, 0)) := by rw [← hWs]; exact hsetOther hH (by omega) _
  have hRq : wq.heap[w.heap.size + 3]? = some (.cells (rc 0 0 (.slice none 0 0)) 44 (0, 0)) := by rw [← hWs]; exact hsetOther hR (by omega) _
  have hOq : Only (fun b => b = bx) w4 wq := by rw [← hWs]; first | exact only_set bx _ _ _ | exact (only_set bx _ _ _).drew
  have hBq : Below w.heap.size w wq := ((only_new (av := fun b => w.heap.size ≤ b) hB).step hOq fun b e => by left; omega).below (Nat.le_refl _) fun _ h => h
  have hLq : Below w1.heap.size w1 wq := ((only_new (av := fun b => w1.heap.size ≤ b) hL).step hOq fun b e => by left; omega).below (Nat.le_refl _) fun _ h => h
  obtain ⟨_, _, ea, hpa, hpab⟩ := hown.out.at_
  simp only [Value.slice.injEq, true_and] at ea
  obtain ⟨rfl, rfl⟩ := ea
  have hpq : PaysAt wq a1 cap1 l := hOq.pays hpa fun hl b off s e => by have := hob.out b (by rw [e]; rfl); omega
  have hsq : 0 < l.length → ∀ b off s, a1 = some ⟨b, off, s⟩ → (False ∨ w1.heap.size ≤ b) ∧ (Value.slice none 0 0).ownBlock ≠ some b ∧ b ≠ bx ∧ b ≠ bx + 1 := fun hl b off s e => ⟨.inr (hpab b off s e), by simp [Value.ownBlock], by have := hob.out b (by rw [e]; rfl); omega, by have := hob.out b (by rw [e]; rfl); omega⟩
  clear hWs hOq
  have t : Two (fun _ => False) w1 wq bx (bx + 1) ⟨h.setCr a n, l, 0, 0, []⟩ a1 cap1 (Value.slice none 0 0) := ⟨hLq, hXq, hYq, by omega, by omega, by omega, hpq, OwnInts.nil _ _, hsq, ⟨by simp [Value.ownBlock], by simp [Value.ownBlock]⟩⟩
  have eN : nextL h l ⟨4, a, b, c, n⟩ = .swept (⟨h.setCr a n, l, 0, 0, []⟩ : Nx).h (⟨h.setCr a n, l, 0, 0, []⟩ : Nx).l (⟨h.setCr a n, l, 0, 0, []⟩ : Nx).n (⟨h.setCr a n, l, 0, 0, []⟩ : Nx).done := nl_cre hgb.out rfl (by simp [e1, e2])
  have hsm : (⟨h.setCr a n, l, 0, 0, []⟩ : Nx).done.length ≤ 24 ∧ (⟨h.setCr a n, l, 0, 0, []⟩ : Nx).l.length ≤ 25 ∧ (⟨h.setCr a n, l, 0, 0, []⟩ : Nx).code = 0 := ⟨by simp, by simp; omega, rfl⟩
  obtain ⟨M, hM⟩ : ∃ M : Nx, ⟨h.setCr a n, l, 0, 0, []⟩ = M := ⟨_, rfl⟩
  rw [hM] at t eN hsm
  replace hM := Lib.hid hM
  obtain ⟨hdM, hlM, hcM⟩ := hsm
  obtain ⟨vr, hvr⟩ : ∃ vr : Value, (Value.slice none 0 0) = vr := ⟨_, rfl⟩
  rw [hvr] at t
  replace hvr := Lib.hid hvr
  obtain ⟨ax, hax⟩ : ∃ ax : Option Addr, a1 = ax := ⟨_, rfl⟩
  rw [hax] at t
  replace hax := Lib.hid hax
  obtain ⟨al, cl, rfl, _, hal⟩ := t.ints.at_
  have hx := t.hx
  have hy := t.hy
  rw [hcM] at hy
  have hsc := t.low.size
  have cS := fun w hp => sweepHouse_anyS M.h M.l ax cap1 w hp
  obtain ⟨T, hT⟩ : ∃ T, sweepG M.h M.l = T := ⟨_, rfl⟩
  rw [hT] at cS
  have eX : nextL h l ⟨4, a, b, c, n⟩ = ⟨T.h, T.l, 0, M.n, M.done ++ T.d⟩ := by rw [eN, ← hT]; rfl
  have hlT : T.l.length = M.l.length := by rw [← hT]; exact (sweep_ext M.h M.l).len
  have hdT : T.d.length ≤ M.l.length := by rw [← hT]; exact ext_le (sweep_ext M.h M.l)
  clear eN
  replace hcM := Lib.hid hcM
  replace eX := Lib.hid eX
  replace cS := Lib.hid cS
  replace hT := Lib.hid hT
  replace hal := Lib.hid hal
  replace hlT := Lib.hid hlT
  clear hXq hYq hLq
  go_upto_region 63 with (first | go_skip | (refine ld_row 29 _ rfl rfl _ rfl _ _ _ _ hx Try.underlying29 rfl info30 ?_) | (go_at_call 67; refine (cS.out _ t.pays).mono ?_; rintro e w5 ⟨⟨a2, cap2, v2, rfl, hp2, ho2, hfa, hap⟩, hb5⟩) | (refine st_new 29 _ _ rfl _ 29 _ rfl rfl rfl (hc T.h (.slice a2 T.l.length cap2)) rfl info30 rfl (hc_one _ _ rfl) ?_))
  have hZ6 := hnew w5 (.cells (hc T.h (.slice a2 T.l.length cap2)) 29)
  have hb6 := hb5.alloc hb5.size (.cells (hc T.h (.slice a2 T.l.length cap2)) 29)
  have hs5 := hb5.size
  have hxl := hlt hx
  have hyl := hlt hy
  have hfb : 0 < T.l.length → ∀ b off s, a2 = some ⟨b, off, s⟩ → (w1.heap.size ≤ b ∧ b ≠ w5.heap.size ∧ b ≠ bx + 1 ∧ (Value.slice al (nats M.done).length cl).ownBlock ≠ some b) := fun hl b off s e => by
   have hbl : b < w5.heap.size := by
    obtain ⟨b', off', e', hbl, _⟩ := hp2.row hl
    rw [e] at e'; cases e'; exact hbl
   rcases hfa b off s e with ⟨off', s', e'⟩ | hge
   ·have hs := t.src (by rw [← hlT.out]; exact hl) b off' s' e'
    exact ⟨hs.1.resolve_left id, by omega, hs.2.2.2, hs.2.1⟩
   ·exact ⟨by omega, by omega, by omega, fun e => by have := ints_own_lt t.ints e; omega⟩
  have hp6 := hp2.alloc (.cells (hc T.h (.slice a2 T.l.length cap2)) 29)
  have ho6 := ho2.alloc (.cells (hc T.h (.slice a2 T.l.length cap2)) 29)
  have hv6 : OwnInts (w5.alloc (.cells (hc T.h (.slice a2 T.l.length cap2)) 29)) w1.heap.size (.slice al (nats M.done).length cl) (nats M.done) := t.ints.below hb6
  have hy6 := hkeep hb6 hy
  have hH6 := hkeep hb6 hHq
  have hR6 := hkeep hb6 hRq
  have hB6 := bstep hBq hBq.size hb6
  have hs6 : w5.heap.size < (w5.alloc (.cells (hc T.h (.slice a2 T.l.length cap2)) 29)).heap.size := by simp
  generalize w5.alloc (.cells (hc T.h (.slice a2 T.l.length cap2)) 29) = w6 at *
  generalize w5.heap.size = bz at *
  have hdM2 : (nats M.done).length ≤ 24 := by rw [nats_len]; exact hdM
  have hdT2 : (nats T.d).length ≤ 25 := by rw [nats_len]; omega
  have cY6 := cells_at hy6
  have htl := t.list
  have hto := fun k hk => t.ints.own (x := k) hk
  clear hb6 hb5 hx hy hp2 ho2 t
  replace hv6 := Lib.hid hv6
  replace ho6 := Lib.hid ho6
  replace hfb := Lib.hid hfb
  replace htl := Lib.hid htl
  replace hto := Lib.hid hto
  go_upto_region 64 with (first | go_skip | (at_builtin; refine wpList_append_ints rfl _ _ rfl w1.heap.size wq.heap.size (.slice al (nats M.done).length cl) v2 (nats M.done) (nats T.d) rfl rfl hv6.out ho6.out (by omega) (by omega) ?_; intro v3 w7 ho7 hgr7 hfr7; obtain ⟨a3, c3, rfl, _, _⟩ := ho7.at_; generalize (nats M.done ++ nats T.d).length = n3 at *; have hy7 := (hgr7.block (bx + 1) (hlt hy6) fun e => htl.out.2 e.symm).trans hy6; have fY := frozenAt hy7; have cY := cells_at hy7; have hset := hsetSame (i := 2) hy7 (.slice a3 n3 c3); replace hset := Lib.hid hset))
  have hZ7 := (hgr7.block bz (hlt hZ6) fun e => by have := ints_own_lt hv6.out e.symm; have := hto.out _ e.symm; exact absurd e.symm (by intro e'; obtain ⟨_, c', h'⟩ := owns_block' hv6.out.1 e'; rw [hZ6] at h'; injection Option.some.inj h' with _ ht _; exact absurd ht (by decide))).trans hZ6
  have hH7 := (hgr7.block _ (hlt hH6) fun e => by have := hto.out _ e.symm; omega).trans hH6
  have hR7 := (hgr7.block _ (hlt hR6) fun e => by have := hto.out _ e.symm; omega).trans hR6
  have hp7 := (only_grown hgr7).pays hp6 fun hl b off s e => (hfb.out hl b off s e).2.2.2
  have hB7 := hB6.grown hgr7 hB6.size fun k hk => by have := hto.out k hk; omega
  have hne3 : ∀ k, (Value.slice a3 n3 c3).ownBlock = some k → w1.heap.size ≤ k ∧ k ≠ bx + 1 ∧ ∀ (b off : Nat) (s : Option Nat), 0 < T.l.length → a2 = some ⟨b, off, s⟩ → k ≠ b := fun k hk => by
   rcases hfr7 k hk with h1 | h1
   ·exact ⟨hto.out k h1, fun e => htl.out.2 (e ▸ h1), fun b off s hl e e' => (hfb.out hl b off s e).2.2.2 (e' ▸ h1)⟩
   ·have hly := hlt hy6
    refine ⟨by omega, by omega, fun b off s hl e e' => ?_⟩
    obtain ⟨b', off', e2, hbl, _⟩ := hp6.row hl
    rw [e] at e2; cases e2; omega
  clear hgr7 hZ6 hH6 hR6 hp6 hB6 hy6 cY6 hv6 ho6 fY cY
  generalize hWs : World.setCell w7 _ _ = w8
  have hy8 : w8.heap[bx + 1]? = some (.cells (rc 0 M.n (.slice a3 n3 c3)) 44 (0, 0)) := by rw [← hWs]; exact hset.out
  have hZ8 : w8.heap[bz]? = some (.cells (hc T.h (.slice a2 T.l.length cap2)) 29 (0, 0)) := by rw [← hWs]; exact hsetOther hZ7 (by omega) _
  have hH8 : w8.heap[w.heap.size + 2]? = some (.cells (hc Hs.zero (.slice none 0 0)) 29 (0, 0)) := by rw [← hWs]; exact hsetOther hH7 (by omega) _
  have hR8 : w8.heap[w.heap.size + 3]? = some (.cells (rc 0 0 (.slice none 0 0)) 44 (0, 0)) := by rw [← hWs]; exact hsetOther hR7 (by omega) _
  have hp8 : PaysAt w8 a2 cap2 T.l := by rw [← hWs]; exact pay_set hp7 _ _ _ fun hl b off s e => (hfb.out hl b off s e).2.2.1
  have hB8 : Below w.heap.size w w8 := by rw [← hWs]; exact hB7.setCell (by show w.heap.size ≤ bx + 1; omega) _
  have ho8 : OwnInts w8 w.heap.size (.slice a3 n3 c3) (nats (M.done ++ T.d)) := by
   rw [nats_app, ← hWs]
   exact ⟨owns_only' (ho7.mono (by omega)).1 (only_set (bx + 1) 2 _ w7) fun x hx e => (hne3 x hx).2.1 e, ho7.2⟩
  replace ho8 := Lib.hid ho8
  replace hne3 := Lib.hid hne3
  clear hWs hset hZ7 hH7 hR7 hp7 hB7 hy7 ho7
  have hHd : w8.drew.heap[w.heap.size + 2]? = _ := hH8
  have hRd : w8.drew.heap[w.heap.size + 3]? = _ := hR8
  have hxd : w8.drew.heap[bz]? = some (.cells (hc T.h (.slice a2 T.l.length cap2)) 29 (0, 0)) := hZ8
  have hyd : w8.drew.heap[bx + 1]? = some (.cells (rc 0 M.n (.slice a3 n3 c3)) 44 (0, 0)) := hy8
  go_upto_region 64 with fail
  refine wpG_start (fun w' : World => w'.heap[bz]? = some (.cells (hc T.h (.slice a2 T.l.length cap2)) 29 (0, 0)) ∧ w'.heap[bx + 1]? = some (.cells (rc 0 M.n (.slice a3 n3 c3)) 44 (0, 0))) 3 (by kernel_rfl) ?_
  have hI0 : (fun w' : World => w'.heap[bz]? = some (.cells (hc T.h (.slice a2 T.l.length cap2)) 29 (0, 0)) ∧ w'.heap[bx + 1]? = some (.cells (rc 0 M.n (.slice a3 n3 c3)) 44 (0, 0))) w8.drew := ⟨hxd, hyd⟩
  refine wpG_put 347 (i := 0) (oi := _) (v := (.agg (hc T.h (.slice a2 T.l.length cap2)))) [0] rfl rfl (by kernel_rfl) (by kernel_rfl) (by kernel_rfl) (by kernel_rfl) (fun _ _ _ h => h) hI0 ?hy1 ?rs1
  case hy1 => exact yields_row 29 _ rfl rfl _ rfl _ _ _ _ (fun w' hb => hb.1) Try.underlying29 rfl info30
  (try simp only [Act.put, List.setIfInBounds_toArray, List.set_cons_succ, List.set_cons_zero])
  refine wpG_put 348 (i := 1) (oi := _) (v := (.agg (rc 0 M.n (.slice a3 n3 c3)))) [1] rfl rfl (by kernel_rfl) (by kernel_rfl) (by kernel_rfl) (by kernel_rfl) (fun _ _ _ h => h) hI0 ?hy2 ?rs2
  case hy2 => exact yields_row 44 _ rfl rfl _ rfl _ _ _ _ (fun w' hb => hb.2) Try.underlying44 rfl infoRp
  (try simp only [Act.put, List.setIfInBounds_toArray, List.set_cons_succ, List.set_cons_zero])
  clear hI0
  refine wpG_one (i := 2) (by kernel_rfl) rfl ?_
  go_wp2_with (first | go_skip | (refine st_row 29 _ _ rfl rfl _ rfl _ rfl _ _ hHd info30 rfl (hc_one _ _ rfl) ?_; intro wa hra hgra hsza))
  refine ⟨⟨(hgra.block _ (hlt hxd) (by simp; omega)).trans hxd, (hgra.block _ (hlt hyd) (by simp; omega)).trans hyd⟩, ?_⟩
  (try simp only [Act.put, List.setIfInBounds_toArray, List.set_cons_succ, List.set_cons_zero])
  refine wpG_drop 3 rfl (by kernel_rfl) ?_
  simp only [List.drop_succ_cons, List.drop_zero]
  go_wp2_with (first | go_skip | (refine st_row 44 _ _ rfl rfl _ rfl (rc 0 M.n (.slice a3 n3 c3)) rfl _ _ ((hgra.block _ (hlt hRd) (by simp)).trans hRd) infoRp rfl (rc_one _ _ _ rfl) ?_; intro wb hrb hgrb hszb))
  exact bodyPost_ret (results_hr rfl _ _ _ _ _ _ _ _ _ rfl rfl ((hgrb.block _ (hlt hra) (by simp)).trans hra) hrb) rfl (by rw [eX.out]; exact nexts_end (X := ⟨T.h, T.l, 0, M.n, M.done ++ T.d⟩) rfl hB8.drew hgra hgrb (hp8.below (Below.refl _ _).drew) (fun hl b off s e => by have hs := hfb.out hl b off s e; exact ⟨.inr (by omega), by omega, by omega, fun e' => (hne3.out b e').2.2 b off s hl e rfl⟩) (ho8.out.below (Below.refl _ _).drew) (fun k hk => by have h1 := (hne3.out k hk).1; omega))
 ·by_cases e1 : sm 0 a 3 = false
  ·have eN : nextL h l ⟨5, a, b, c, n⟩ = .err h l 3 := nl_lim1 hgb.out rfl (.inl e1)
   replace eN := Lib.hid eN
   go_wp2_with (first | go_skip | (go_at_call 63; refine (refNo_any h _ rfl 3 w.heap.size _ hA).mono ?_; rintro e wn ⟨rfl, hbn⟩) | (refine st_row 29 _ _ rfl rfl _ rfl _ rfl _ _ (hkeep hbn hH) info30 rfl (hc_one _ _ rfl) ?_; intro wa hra hgra hsza) | (refine st_row 44 _ _ rfl rfl _ rfl (rc 3 0 (.slice none 0 0)) rfl _ _ ((hgra.block _ (hlt (hkeep hbn hR)) (by simp)).trans (hkeep hbn hR)) infoRp rfl (rc_one _ _ _ rfl) ?_; intro wb hrb hgrb hszb))
   exact bodyPost_ret (results_hr rfl _ _ _ _ _ _ _ _ _ rfl rfl ((hgrb.block _ (hlt hra) (by simp)).trans hra) hrb) rfl (by rw [eN.out]; exact nexts_end (X := .err h l 3) rfl (bstep hB hB.size hbn) hgra hgrb (hp0.below hbn) (fun hl b off s e => ⟨.inl ⟨rfl, by simp [Nx.err]⟩, by have := hpl.out hl b off s e; omega, by have := hpl.out hl b off s e; omega, by simp [Value.ownBlock]⟩) (OwnInts.nil _ _) (fun x hx => by simp [Value.ownBlock] at hx))
  have e1 : sm 0 a 3 = true := by simpa using e1
  by_cases e2 : sm 0 b 3 = false
  ·have eN : nextL h l ⟨5, a, b, c, n⟩ = .err h l 3 := nl_lim1 hgb.out rfl (.inr (.inl e2))
   replace eN := Lib.hid eN
   go_wp2_with (first | go_skip | (go_at_call 59; refine (within_any _ _ _ _).mono ?_; rintro e w' ⟨rfl, rfl⟩; first | rw [e2]) | (go_at_call 63; refine (refNo_any h _ rfl 3 w.heap.size _ hA).mono ?_; rintro e wn ⟨rfl, hbn⟩) | (refine st_row 29 _ _ rfl rfl _ rfl _ rfl _ _ (hkeep hbn hH) info30 rfl (hc_one _ _ rfl) ?_; intro wa hra hgra hsza) | (refine st_row 44 _ _ rfl rfl _ rfl (rc 3 0 (.slice none 0 0)) rfl _ _ ((hgra.block _ (hlt (hkeep hbn hR)) (by simp)).trans (hkeep hbn hR)) infoRp rfl (rc_one _ _ _ rfl) ?_; intro wb hrb hgrb hszb))
   exact bodyPost_ret (results_hr rfl _ _ _ _ _ _ _ _ _ rfl rfl ((hgrb.block _ (hlt hra) (by simp)).trans hra) hrb) rfl (by rw [eN.out]; exact nexts_end (X := .err h l 3) rfl (bstep hB hB.size hbn) hgra hgrb (hp0.below hbn) (fun hl b off s e => ⟨.inl ⟨rfl, by simp [Nx.err]⟩, by have := hpl.out hl b off s e; omega, by have := hpl.out hl b off s e; omega, by simp [Value.ownBlock]⟩) (OwnInts.nil _ _) (fun x hx => by simp [Value.ownBlock] at hx))
  have e2 : sm 0 b 3 = true := by simpa using e2
  by_cases e3 : a = b
  ·have q3 : (a == b) = true := by rw [beq_iff_eq]; exact e3
   have eN : nextL h l ⟨5, a, b, c, n⟩ = .err h l 3 := nl_lim1 hgb.out rfl (.inr (.inr (.inl e3)))
   replace eN := Lib.hid eN
   go_wp2_with (first | go_skip | (go_at_call 59; refine (within_any _ _ _ _).mono ?_; rintro e w' ⟨rfl, rfl⟩; first | rw [e2]) | (go_at_call 63; refine (refNo_any h _ rfl 3 w.heap.size _ hA).mono ?_; rintro e wn ⟨rfl, hbn⟩) | (refine st_row 29 _ _ rfl rfl _ rfl _ rfl _ _ (hkeep hbn hH) info30 rfl (hc_one _ _ rfl) ?_; intro wa hra hgra hsza) | (refine st_row 44 _ _ rfl rfl _ rfl (rc 3 0 (.slice none 0 0)) rfl _ _ ((hgra.block _ (hlt (hkeep hbn hR)) (by simp)).trans (hkeep hbn hR)) infoRp rfl (rc_one _ _ _ rfl) ?_; intro wb hrb hgrb hszb))
   exact bodyPost_ret (results_hr rfl _ _ _ _ _ _ _ _ _ rfl rfl ((hgrb.block _ (hlt hra) (by simp)).trans hra) hrb) rfl (by rw [eN.out]; exact nexts_end (X := .err h l 3) rfl (bstep hB hB.size hbn) hgra hgrb (hp0.below hbn) (fun hl b off s e => ⟨.inl ⟨rfl, by simp [Nx.err]⟩, by have := hpl.out hl b off s e; omega, by have := hpl.out hl b off s e; omega, by simp [Value.ownBlock]⟩) (OwnInts.nil _ _) (fun x hx => by simp [Value.ownBlock] at hx))
  have q3 : (a == b) = false := by rw [beq_eq_false_iff_ne]; exact e3
  by_cases e4 : sm (-1) n 1000000 = false
  ·have eN : nextL h l ⟨5, a, b, c, n⟩ = .err h l 3 := nl_lim1 hgb.out rfl (.inr (.inr (.inr e4)))
   replace eN := Lib.hid eN
   go_wp2_with (first | go_skip | (go_at_call 59; refine (within_any _ _ _ _).mono ?_; rintro e w' ⟨rfl, rfl⟩; first | rw [e2] | rw [e4]) | (go_at_call 63; refine (refNo_any h _ rfl 3 w.heap.size _ hA).mono ?_; rintro e wn ⟨rfl, hbn⟩) | (refine st_row 29 _ _ rfl rfl _ rfl _ rfl _ _ (hkeep hbn hH) info30 rfl (hc_one _ _ rfl) ?_; intro wa hra hgra hsza) | (refine st_row 44 _ _ rfl rfl _ rfl (rc 3 0 (.slice none 0 0)) rfl _ _ ((hgra.block _ (hlt (hkeep hbn hR)) (by simp)).trans (hkeep hbn hR)) infoRp rfl (rc_one _ _ _ rfl) ?_; intro wb hrb hgrb hszb))
   exact bodyPost_ret (results_hr rfl _ _ _ _ _ _ _ _ _ rfl rfl ((hgrb.block _ (hlt hra) (by simp)).trans hra) hrb) rfl (by rw [eN.out]; exact nexts_end (X := .err h l 3) rfl (bstep hB hB.size hbn) hgra hgrb (hp0.below hbn) (fun hl b off s e => ⟨.inl ⟨rfl, by simp [Nx.err]⟩, by have := hpl.out hl b off s e; omega, by have := hpl.out hl b off s e; omega, by simp [Value.ownBlock]⟩) (OwnInts.nil _ _) (fun x hx => by simp [Value.ownBlock] at hx))
  have e4 : sm (-1) n 1000000 = true := by simpa using e4
  have eNL := nl_lim (d := ⟨5, a, b, c, n⟩) hgb.out rfl (fun x => by rcases x with x | x | x | x <;> simp_all)
  replace eNL := Lib.hid eNL
  replace e3 := Lib.hid e3
  obtain ⟨q0, q1⟩ := sm_true e1
  have q2 : a < 4 := by omega
  obtain ⟨p0, p1⟩ := sm_true e2
  have p2 : b < 4 := by omega
  go_upto_region 38 with (first | go_skip | (go_at_call 59; refine (within_any _ _ _ _).mono ?_; rintro e w' ⟨rfl, rfl⟩; first | rw [e2] | rw [e4]))
  clear cA cD
  have hcI : ∀ w', Below w4.heap.size w4 w' → w'.cell? ⟨w.heap.size + 1, 1, none⟩ = some (.int .i64 a) ∧ w'.cell? ⟨w.heap.size + 1, 2, none⟩ = some (.int .i64 b) ∧ w'.cell? ⟨w.heap.size + 1, 4, none⟩ = some (.int .i64 n) ∧ True := fun w' hb =>
   have h1 := cells_at (hkeep hb hD)
   ⟨h1 1, h1 2, h1 4, trivial⟩
  replace hcI := Lib.hid hcI
  refine wpG_start (Below w4.heap.size w4) 9 (by kernel_rfl) ?_
  have hI0 : Below w4.heap.size w4 w4.drew := (Below.refl _ _).drew
  refine wpG_put 206 (i := 0) (oi := _) (v := (.pointer (some ⟨w.heap.size + 1, 1, none⟩))) [0] rfl rfl (by kernel_rfl) (by kernel_rfl) (by kernel_rfl) (by kernel_rfl) (fun _ _ _ h => h) hI0 ?hy3 ?rs3
  case hy3 => exact Or.inl ⟨by rfl, by intro w' hb; obtain ⟨c1, c2, c3, c4⟩ := hcI.out w' hb; go_simp; first | done | exact IntWalk.i64_in _ (by omega)⟩
  (try simp only [Act.put, List.setIfInBounds_toArray, List.set_cons_succ, List.set_cons_zero])
  refine wpG_put 207 (i := 1) (oi := _) (v := (.int .i64 a)) [1] rfl rfl (by kernel_rfl) (by kernel_rfl) (by kernel_rfl) (by kernel_rfl) (fun _ _ _ h => h) hI0 ?hy4 ?rs4
  case hy4 => exact Or.inl ⟨by rfl, by intro w' hb; obtain ⟨c1, c2, c3, c4⟩ := hcI.out w' hb; go_simp; first | done | exact IntWalk.i64_in _ (by omega)⟩
  (try simp only [Act.put, List.setIfInBounds_toArray, List.set_cons_succ, List.set_cons_zero])
  refine wpG_put 208 (i := 2) (oi := _) (v := (.pointer (some ⟨w.heap.size + 1, 2, none⟩))) [2] rfl rfl (by kernel_rfl) (by kernel_rfl) (by kernel_rfl) (by kernel_rfl) (fun _ _ _ h => h) hI0 ?hy5 ?rs5
  case hy5 => exact Or.inl ⟨by rfl, by intro w' hb; obtain ⟨c1, c2, c3, c4⟩ := hcI.out w' hb; go_simp; first | done | exact IntWalk.i64_in _ (by omega)⟩
  (try simp only [Act.put, List.setIfInBounds_toArray, List.set_cons_succ, List.set_cons_zero])
  refine wpG_put 209 (i := 3) (oi := _) (v := (.int .i64 b)) [3] rfl rfl (by kernel_rfl) (by kernel_rfl) (by kernel_rfl) (by kernel_rfl) (fun _ _ _ h => h) hI0 ?hy6 ?rs6
  case hy6 => exact Or.inl ⟨by rfl, by intro w' hb; obtain ⟨c1, c2, c3, c4⟩ := hcI.out w' hb; go_simp; first | done | exact IntWalk.i64_in _ (by omega)⟩
  (try simp only [Act.put, List.setIfInBounds_toArray, List.set_cons_succ, List.set_cons_zero])
  refine wpG_put 210 (i := 4) (oi := _) (v := (.pointer (some ⟨w.heap.size + 1, 4, none⟩))) [4] rfl rfl (by kernel_rfl) (by kernel_rfl) (by kernel_rfl) (by kernel_rfl) (fun _ _ _ h => h) hI0 ?hy7 ?rs7
  case hy7 => exact Or.inl ⟨by rfl, by intro w' hb; obtain ⟨c1, c2, c3, c4⟩ := hcI.out w' hb; go_simp; first | done | exact IntWalk.i64_in _ (by omega)⟩
  (try simp only [Act.put, List.setIfInBounds_toArray, List.set_cons_succ, List.set_cons_zero])
  refine wpG_put 211 (i := 5) (oi := _) (v := (.int .i64 n)) [5] rfl rfl (by kernel_rfl) (by kernel_rfl) (by kernel_rfl) (by kernel_rfl) (fun _ _ _ h => h) hI0 ?hy8 ?rs8
  case hy8 => exact Or.inl ⟨by rfl, by intro w' hb; obtain ⟨c1, c2, c3, c4⟩ := hcI.out w' hb; go_simp; first | done | exact IntWalk.i64_in _ (by omega)⟩
  (try simp only [Act.put, List.setIfInBounds_toArray, List.set_cons_succ, List.set_cons_zero])
  refine wpG_put 212 (i := 6) (oi := _) (v := (.pointer (some ⟨bx, 24, none⟩))) [8, 7, 6] rfl rfl (by kernel_rfl) (by kernel_rfl) (by kernel_rfl) (by kernel_rfl) (fun _ _ _ h => h) hI0 ?hy9 ?rs9
  case hy9 => exact Or.inl ⟨by rfl, by intro w' hb; obtain ⟨c1, c2, c3, c4⟩ := hcI.out w' hb; go_simp; first | done | exact IntWalk.i64_in _ (by omega)⟩
  (try simp only [Act.put, List.setIfInBounds_toArray, List.set_cons_succ, List.set_cons_zero])
  refine wpG_put 213 (i := 7) (oi := _) (v := (.pointer (some ⟨bx, 24 + a.toNat * 4, none⟩))) [8, 7] rfl rfl (by kernel_rfl) (by kernel_rfl) (by kernel_rfl) (by kernel_rfl) (fun _ _ _ h => h) hI0 ?hy10 ?rs10
  case hy10 => exact Or.inl ⟨by rfl, by intro w' hb; obtain ⟨c1, c2, c3, c4⟩ := hcI.out w' hb; go_simp; first | done | exact IntWalk.i64_in _ (by omega)⟩
  (try simp only [Act.put, List.setIfInBounds_toArray, List.set_cons_succ, List.set_cons_zero])
  refine wpG_put 214 (i := 8) (oi := _) (v := (.pointer (some ⟨bx, 24 + a.toNat * 4 + b.toNat, none⟩))) [8] rfl rfl (by kernel_rfl) (by kernel_rfl) (by kernel_rfl) (by kernel_rfl) (fun _ _ _ h => h) hI0 ?hy11 ?rs11
  case hy11 => exact Or.inl ⟨by rfl, by intro w' hb; obtain ⟨c1, c2, c3, c4⟩ := hcI.out w' hb; go_simp; first | done | exact IntWalk.i64_in _ (by omega)⟩
  (try simp only [Act.put, List.setIfInBounds_toArray, List.set_cons_succ, List.set_cons_zero])
  refine wpG_drop 9 rfl (by kernel_rfl) ?_
  simp only [List.drop_succ_cons, List.drop_zero]
  have fX := frozenAt (hkeep hI0 hX)
  have cX : w4.drew.cell? ⟨bx, 24 + a.toNat * 4 + b.toNat, none⟩ = some (.int .i64 (h.lim a b)) := (cells_at (hkeep hI0 hX) _).trans (hc_lim h _ a b q0 q2 p0 p2)
  have hset := hsetSame (i := 24 + a.toNat * 4 + b.toNat) hX (.int .i64 n)
  rw [hc_setLim _ _ _ _ _ q0 q2 p0 p2] at hset
  replace hset := Lib.hid hset
  clear hI0
  go_upto_region 62 with fail
  clear cX fX hcI
  generalize hWs : World.drew (World.setCell w4 _ _) = wq
  have hXq : wq.heap[bx]? = some (.cells (hc (h.setLim a b n) (.slice a1 l.length cap1)) 29 (0, 0)) := by rw [← hWs]; exact hset.out
  have hYq : wq.heap[bx + 1]? = some (.cells (rc 0 0 (.slice none 0 0)) 44 (0, 0)) := by rw [← hWs]; exact hsetOther hY (by omega) _
  have hHq : wq.heap[w.heap.size + 2]? = some (.cells (hc Hs.zero (.slice none 0 0)) 29 (0, 0)) := by rw [← hWs]; exact hsetOther hH (by omega) _
  have hRq : wq.heap[w.heap.size + 3]? = some (.cells (rc 0 0 (.slice none 0 0)) 44 (0, 0)) := by rw [← hWs]; exact hsetOther hR (by omega) _
  have hOq : Only (fun b => b = bx) w4 wq := by rw [← hWs]; first | exact only_set bx _ _ _ | exact (only_set bx _ _ _).drew
  have hBq : Below w.heap.size w wq := ((only_new (av := fun b => w.heap.size ≤ b) hB).step hOq fun b e => by left; omega).below (Nat.le_refl _) fun _ h => h
  have hLq : Below w1.heap.size w1 wq := ((only_new (av := fun b => w1.heap.size ≤ b) hL).step hOq fun b e => by left; omega).below (Nat.le_refl _) fun _ h => h
  obtain ⟨_, _, ea, hpa, hpab⟩ := hown.out.at_
  simp only [Value.slice.injEq, true_and] at ea
  obtain ⟨rfl, rfl⟩ := ea
  have hpq : PaysAt wq a1 cap1 l := hOq.pays hpa fun hl b off s e => by have := hob.out b (by rw [e]; rfl); omega
  have hsq : 0 < l.length → ∀ b off s, a1 = some ⟨b, off, s⟩ → (False ∨ w1.heap.size ≤ b) ∧ (Value.slice none 0 0).ownBlock ≠ some b ∧ b ≠ bx ∧ b ≠ bx + 1 := fun hl b off s e => ⟨.inr (hpab b off s e), by simp [Value.ownBlock], by have := hob.out b (by rw [e]; rfl); omega, by have := hob.out b (by rw [e]; rfl); omega⟩
  clear hWs hOq
  have t : Two (fun _ => False) w1 wq bx (bx + 1) ⟨h.setLim a b n, l, 0, 0, []⟩ a1 cap1 (Value.slice none 0 0) := ⟨hLq, hXq, hYq, by omega, by omega, by omega, hpq, OwnInts.nil _ _, hsq, ⟨by simp [Value.ownBlock], by simp [Value.ownBlock]⟩⟩
  have eN : nextL h l ⟨5, a, b, c, n⟩ = .swept (⟨h.setLim a b n, l, 0, 0, []⟩ : Nx).h (⟨h.setLim a b n, l, 0, 0, []⟩ : Nx).l (⟨h.setLim a b n, l, 0, 0, []⟩ : Nx).n (⟨h.setLim a b n, l, 0, 0, []⟩ : Nx).done := eNL.out
  have hsm : (⟨h.setLim a b n, l, 0, 0, []⟩ : Nx).done.length ≤ 24 ∧ (⟨h.setLim a b n, l, 0, 0, []⟩ : Nx).l.length ≤ 25 ∧ (⟨h.setLim a b n, l, 0, 0, []⟩ : Nx).code = 0 := ⟨by simp, by simp; omega, rfl⟩
  obtain ⟨M, hM⟩ : ∃ M : Nx, ⟨h.setLim a b n, l, 0, 0, []⟩ = M := ⟨_, rfl⟩
  rw [hM] at t eN hsm
  replace hM := Lib.hid hM
  obtain ⟨hdM, hlM, hcM⟩ := hsm
  obtain ⟨vr, hvr⟩ : ∃ vr : Value, (Value.slice none 0 0) = vr := ⟨_, rfl⟩
  rw [hvr] at t
  replace hvr := Lib.hid hvr
  obtain ⟨ax, hax⟩ : ∃ ax : Option Addr, a1 = ax := ⟨_, rfl⟩
  rw [hax] at t
  replace hax := Lib.hid hax
  obtain ⟨al, cl, rfl, _, hal⟩ := t.ints.at_
  have hx := t.hx
  have hy := t.hy
  rw [hcM] at hy
  have hsc := t.low.size
  have cS := fun w hp => sweepHouse_anyS M.h M.l ax cap1 w hp
  obtain ⟨T, hT⟩ : ∃ T, sweepG M.h M.l = T := ⟨_, rfl⟩
  rw [hT] at cS
  have eX : nextL h l ⟨5, a, b, c, n⟩ = ⟨T.h, T.l, 0, M.n, M.done ++ T.d⟩ := by rw [eN, ← hT]; rfl
  have hlT : T.l.length = M.l.length := by rw [← hT]; exact (sweep_ext M.h M.l).len
  have hdT : T.d.length ≤ M.l.length := by rw [← hT]; exact ext_le (sweep_ext M.h M.l)
  clear eN
  replace hcM := Lib.hid hcM
  replace eX := Lib.hid eX
  replace cS := Lib.hid cS
  replace hT := Lib.hid hT
  replace hal := Lib.hid hal
  replace hlT := Lib.hid hlT
  clear hXq hYq hLq
  go_upto_region 63 with (first | go_skip | (refine ld_row 29 _ rfl rfl _ rfl _ _ _ _ hx Try.underlying29 rfl info30 ?_) | (go_at_call 67; refine (cS.out _ t.pays).mono ?_; rintro e w5 ⟨⟨a2, cap2, v2, rfl, hp2, ho2, hfa, hap⟩, hb5⟩) | (refine st_new 29 _ _ rfl _ 29 _ rfl rfl rfl (hc T.h (.slice a2 T.l.length cap2)) rfl info30 rfl (hc_one _ _ rfl) ?_))
  have hZ6 := hnew w5 (.cells (hc T.h (.slice a2 T.l.length cap2)) 29)
  have hb6 := hb5.alloc hb5.size (.cells (hc T.h (.slice a2 T.l.length cap2)) 29)
  have hs5 := hb5.size
  have hxl := hlt hx
  have hyl := hlt hy
  have hfb : 0 < T.l.length → ∀ b off s, a2 = some ⟨b, off, s⟩ → (w1.heap.size ≤ b ∧ b ≠ w5.heap.size ∧ b ≠ bx + 1 ∧ (Value.slice al (nats M.done).length cl).ownBlock ≠ some b) := fun hl b off s e => by
   have hbl : b < w5.heap.size := by
    obtain ⟨b', off', e', hbl, _⟩ := hp2.row hl
    rw [e] at e'; cases e'; exact hbl
   rcases hfa b off s e with ⟨off', s', e'⟩ | hge
   ·have hs := t.src (by rw [← hlT.out]; exact hl) b off' s' e'
    exact ⟨hs.1.resolve_left id, by omega, hs.2.2.2, hs.2.1⟩
   ·exact ⟨by omega, by omega, by omega, fun e => by have := ints_own_lt t.ints e; omega⟩
  have hp6 := hp2.alloc (.cells (hc T.h (.slice a2 T.l.length cap2)) 29)
  have ho6 := ho2.alloc (.cells (hc T.h (.slice a2 T.l.length cap2)) 29)
  have hv6 : OwnInts (w5.alloc (.cells (hc T.h (.slice a2 T.l.length cap2)) 29)) w1.heap.size (.slice al (nats M.done).length cl) (nats M.done) := t.ints.below hb6
  have hy6 := hkeep hb6 hy
  have hH6 := hkeep hb6 hHq
  have hR6 := hkeep hb6 hRq
  have hB6 := bstep hBq hBq.size hb6
  have hs6 : w5.heap.size < (w5.alloc (.cells (hc T.h (.slice a2 T.l.length cap2)) 29)).heap.size := by simp
  generalize w5.alloc (.cells (hc T.h (.slice a2 T.l.length cap2)) 29) = w6 at *
  generalize w5.heap.size = bz at *
  have hdM2 : (nats M.done).length ≤ 24 := by rw [nats_len]; exact hdM
  have hdT2 : (nats T.d).length ≤ 25 := by rw [nats_len]; omega
  have cY6 := cells_at hy6
  have htl := t.list
  have hto := fun k hk => t.ints.own (x := k) hk
  clear hb6 hb5 hx hy hp2 ho2 t
  replace hv6 := Lib.hid hv6
  replace ho6 := Lib.hid ho6
  replace hfb := Lib.hid hfb
  replace htl := Lib.hid htl
  replace hto := Lib.hid hto
  go_upto_region 64 with (first | go_skip | (at_builtin; refine wpList_append_ints rfl _ _ rfl w1.heap.size wq.heap.size (.slice al (nats M.done).length cl) v2 (nats M.done) (nats T.d) rfl rfl hv6.out ho6.out (by omega) (by omega) ?_; intro v3 w7 ho7 hgr7 hfr7; obtain ⟨a3, c3, rfl, _, _⟩ := ho7.at_; generalize (nats M.done ++ nats T.d).length = n3 at *; have hy7 := (hgr7.block (bx + 1) (hlt hy6) fun e => htl.out.2 e.symm).trans hy6; have fY := frozenAt hy7; have cY := cells_at hy7; have hset := hsetSame (i := 2) hy7 (.slice a3 n3 c3); replace hset := Lib.hid hset))
  have hZ7 := (hgr7.block bz (hlt hZ6) fun e => by have := ints_own_lt hv6.out e.symm; have := hto.out _ e.symm; exact absurd e.symm (by intro e'; obtain ⟨_, c', h'⟩ := owns_block' hv6.out.1 e'; rw [hZ6] at h'; injection Option.some.inj h' with _ ht _; exact absurd ht (by decide))).trans hZ6
  have hH7 := (hgr7.block _ (hlt hH6) fun e => by have := hto.out _ e.symm; omega).trans hH6
  have hR7 := (hgr7.block _ (hlt hR6) fun e => by have := hto.out _ e.symm; omega).trans hR6
  have hp7 := (only_grown hgr7).pays hp6 fun hl b off s e => (hfb.out hl b off s e).2.2.2
  have hB7 := hB6.grown hgr7 hB6.size fun k hk => by have := hto.out k hk; omega
  have hne3 : ∀ k, (Value.slice a3 n3 c3).ownBlock = some k → w1.heap.size ≤ k ∧ k ≠ bx + 1 ∧ ∀ (b off : Nat) (s : Option Nat), 0 < T.l.length → a2 = some ⟨b, off, s⟩ → k ≠ b := fun k hk => by
   rcases hfr7 k hk with h1 | h1
   ·exact ⟨hto.out k h1, fun e => htl.out.2 (e ▸ h1), fun b off s hl e e' => (hfb.out hl b off s e).2.2.2 (e' ▸ h1)⟩
   ·have hly := hlt hy6
    refine ⟨by omega, by omega, fun b off s hl e e' => ?_⟩
    obtain ⟨b', off', e2, hbl, _⟩ := hp6.row hl
    rw [e] at e2; cases e2; omega
  clear hgr7 hZ6 hH6 hR6 hp6 hB6 hy6 cY6 hv6 ho6 fY cY
  generalize hWs : World.setCell w7 _ _ = w8
  have hy8 : w8.heap[bx + 1]? = some (.cells (rc 0 M.n (.slice a3 n3 c3)) 44 (0, 0)) := by rw [← hWs]; exact hset.out
  have hZ8 : w8.heap[bz]? = some (.cells (hc T.h (.slice a2 T.l.length cap2)) 29 (0, 0)) := by rw [← hWs]; exact hsetOther hZ7 (by omega) _
  have hH8 : w8.heap[w.heap.size + 2]? = some (.cells (hc Hs.zero (.slice none 0 0)) 29 (0, 0)) := by rw [← hWs]; exact hsetOther hH7 (by omega) _
  have hR8 : w8.heap[w.heap.size + 3]? = some (.cells (rc 0 0 (.slice none 0 0)) 44 (0, 0)) := by rw [← hWs]; exact hsetOther hR7 (by omega) _
  have hp8 : PaysAt w8 a2 cap2 T.l := by rw [← hWs]; exact pay_set hp7 _ _ _ fun hl b off s e => (hfb.out hl b off s e).2.2.1
  have hB8 : Below w.heap.size w w8 := by rw [← hWs]; exact hB7.setCell (by show w.heap.size ≤ bx + 1; omega) _
  have ho8 : OwnInts w8 w.heap.size (.slice a3 n3 c3) (nats (M.done ++ T.d)) := by
   rw [nats_app, ← hWs]
   exact ⟨owns_only' (ho7.mono (by omega)).1 (only_set (bx + 1) 2 _ w7) fun x hx e => (hne3 x hx).2.1 e, ho7.2⟩
  replace ho8 := Lib.hid ho8
  replace hne3 := Lib.hid hne3
  clear hWs hset hZ7 hH7 hR7 hp7 hB7 hy7 ho7
  have hHd : w8.drew.heap[w.heap.size + 2]? = _ := hH8
  have hRd : w8.drew.heap[w.heap.size + 3]? = _ := hR8
  have hxd : w8.drew.heap[bz]? = some (.cells (hc T.h (.slice a2 T.l.length cap2)) 29 (0, 0)) := hZ8
  have hyd : w8.drew.heap[bx + 1]? = some (.cells (rc 0 M.n (.slice a3 n3 c3)) 44 (0, 0)) := hy8
  go_upto_region 64 with fail
  refine wpG_start (fun w' : World => w'.heap[bz]? = some (.cells (hc T.h (.slice a2 T.l.length cap2)) 29 (0, 0)) ∧ w'.heap[bx + 1]? = some (.cells (rc 0 M.n (.slice a3 n3 c3)) 44 (0, 0))) 3 (by kernel_rfl) ?_
  have hI0 : (fun w' : World => w'.heap[bz]? = some (.cells (hc T.h (.slice a2 T.l.length cap2)) 29 (0, 0)) ∧ w'.heap[bx + 1]? = some (.cells (rc 0 M.n (.slice a3 n3 c3)) 44 (0, 0))) w8.drew := ⟨hxd, hyd⟩
  refine wpG_put 347 (i := 0) (oi := _) (v := (.agg (hc T.h (.slice a2 T.l.length cap2)))) [0] rfl rfl (by kernel_rfl) (by kernel_rfl) (by kernel_rfl) (by kernel_rfl) (fun _ _ _ h => h) hI0 ?hy12 ?rs12
  case hy12 => exact yields_row 29 _ rfl rfl _ rfl _ _ _ _ (fun w' hb => hb.1) Try.underlying29 rfl info30
  (try simp only [Act.put, List.setIfInBounds_toArray, List.set_cons_succ, List.set_cons_zero])
  refine wpG_put 348 (i := 1) (oi := _) (v := (.agg (rc 0 M.n (.slice a3 n3 c3)))) [1] rfl rfl (by kernel_rfl) (by kernel_rfl) (by kernel_rfl) (by kernel_rfl) (fun _ _ _ h => h) hI0 ?hy13 ?rs13
  case hy13 => exact yields_row 44 _ rfl rfl _ rfl _ _ _ _ (fun w' hb => hb.2) Try.underlying44 rfl infoRp
  (try simp only [Act.put, List.setIfInBounds_toArray, List.set_cons_succ, List.set_cons_zero])
  clear hI0
  refine wpG_one (i := 2) (by kernel_rfl) rfl ?_
  go_wp2_with (first | go_skip | (refine st_row 29 _ _ rfl rfl _ rfl _ rfl _ _ hHd info30 rfl (hc_one _ _ rfl) ?_; intro wa hra hgra hsza))
  refine ⟨⟨(hgra.block _ (hlt hxd) (by simp; omega)).trans hxd, (hgra.block _ (hlt hyd) (by simp; omega)).trans hyd⟩, ?_⟩
  (try simp only [Act.put, List.setIfInBounds_toArray, List.set_cons_succ, List.set_cons_zero])
  refine wpG_drop 3 rfl (by kernel_rfl) ?_
  simp only [List.drop_succ_cons, List.drop_zero]
  go_wp2_with (first | go_skip | (refine st_row 44 _ _ rfl rfl _ rfl (rc 0 M.n (.slice a3 n3 c3)) rfl _ _ ((hgra.block _ (hlt hRd) (by simp)).trans hRd) infoRp rfl (rc_one _ _ _ rfl) ?_; intro wb hrb hgrb hszb))
  exact bodyPost_ret (results_hr rfl _ _ _ _ _ _ _ _ _ rfl rfl ((hgrb.block _ (hlt hra) (by simp)).trans hra) hrb) rfl (by rw [eX.out]; exact nexts_end (X := ⟨T.h, T.l, 0, M.n, M.done ++ T.d⟩) rfl hB8.drew hgra hgrb (hp8.below (Below.refl _ _).drew) (fun hl b off s e => by have hs := hfb.out hl b off s e; exact ⟨.inr (by omega), by omega, by omega, fun e' => (hne3.out b e').2.2 b off s hl e rfl⟩) (ho8.out.below (Below.refl _ _).drew) (fun k hk => by have h1 := (hne3.out k hk).1; omega))
 ·by_cases e1 : sm 0 a 3 = false
  ·have eN : nextL h l ⟨6, a, b, c, n⟩ = .err h l 3 := nl_fs1 hgb.out (.inl rfl) (.inl e1)
   replace eN := Lib.hid eN
   go_wp2_with (first | go_skip | (go_at_call 63; refine (refNo_any h _ rfl 3 w.heap.size _ hA).mono ?_; rintro e wn ⟨rfl, hbn⟩) | (refine st_row 29 _ _ rfl rfl _ rfl _ rfl _ _ (hkeep hbn hH) info30 rfl (hc_one _ _ rfl) ?_; intro wa hra hgra hsza) | (refine st_row 44 _ _ rfl rfl _ rfl (rc 3 0 (.slice none 0 0)) rfl _ _ ((hgra.block _ (hlt (hkeep hbn hR)) (by simp)).trans (hkeep hbn hR)) infoRp rfl (rc_one _ _ _ rfl) ?_; intro wb hrb hgrb hszb))
   exact bodyPost_ret (results_hr rfl _ _ _ _ _ _ _ _ _ rfl rfl ((hgrb.block _ (hlt hra) (by simp)).trans hra) hrb) rfl (by rw [eN.out]; exact nexts_end (X := .err h l 3) rfl (bstep hB hB.size hbn) hgra hgrb (hp0.below hbn) (fun hl b off s e => ⟨.inl ⟨rfl, by simp [Nx.err]⟩, by have := hpl.out hl b off s e; omega, by have := hpl.out hl b off s e; omega, by simp [Value.ownBlock]⟩) (OwnInts.nil _ _) (fun x hx => by simp [Value.ownBlock] at hx))
  have e1 : sm 0 a 3 = true := by simpa using e1
  by_cases e2 : sm 1 n 1000000 = false
  ·have eN : nextL h l ⟨6, a, b, c, n⟩ = .err h l 3 := nl_fs1 hgb.out (.inl rfl) (.inr e2)
   replace eN := Lib.hid eN
   go_wp2_with (first | go_skip | (go_at_call 59; refine (within_any _ _ _ _).mono ?_; rintro e w' ⟨rfl, rfl⟩; first | rw [e2]) | (go_at_call 63; refine (refNo_any h _ rfl 3 w.heap.size _ hA).mono ?_; rintro e wn ⟨rfl, hbn⟩) | (refine st_row 29 _ _ rfl rfl _ rfl _ rfl _ _ (hkeep hbn hH) info30 rfl (hc_one _ _ rfl) ?_; intro wa hra hgra hsza) | (refine st_row 44 _ _ rfl rfl _ rfl (rc 3 0 (.slice none 0 0)) rfl _ _ ((hgra.block _ (hlt (hkeep hbn hR)) (by simp)).trans (hkeep hbn hR)) infoRp rfl (rc_one _ _ _ rfl) ?_; intro wb hrb hgrb hszb))
   exact bodyPost_ret (results_hr rfl _ _ _ _ _ _ _ _ _ rfl rfl ((hgrb.block _ (hlt hra) (by simp)).trans hra) hrb) rfl (by rw [eN.out]; exact nexts_end (X := .err h l 3) rfl (bstep hB hB.size hbn) hgra hgrb (hp0.below hbn) (fun hl b off s e => ⟨.inl ⟨rfl, by simp [Nx.err]⟩, by have := hpl.out hl b off s e; omega, by have := hpl.out hl b off s e; omega, by simp [Value.ownBlock]⟩) (OwnInts.nil _ _) (fun x hx => by simp [Value.ownBlock] at hx))
  have e2 : sm 1 n 1000000 = true := by simpa using e2
  have eo : ¬ (sm 0 a 3 = false ∨ sm 1 n 1000000 = false) := by simp [e1, e2]
  obtain ⟨q0, q1⟩ := sm_true e1
  have q2 : a < 4 := by omega
  obtain ⟨n0, n1⟩ := sm_true e2
  obtain ⟨r0, r1⟩ := sm_true (g.banks a q0 q2).has
  obtain ⟨s0, s1⟩ := sm_true (g.banks a q0 q2).cr
  have cH : w4.cell? ⟨w.heap.size, a.toNat * 2, none⟩ = some (.int .i64 (h.has a)) := (cells_at hA _).trans (hc_has h _ a q0 q2)
  have cC : w4.cell? ⟨w.heap.size, a.toNat * 2 + 1, none⟩ = some (.int .i64 (h.cr a)) := (cells_at hA _).trans (hc_cr h _ a q0 q2)
  replace eo := Lib.hid eo
  clear cA
  by_cases e3 : 549755813888 ≤ h.has a
  ·have d3 : decide (h.has a ≥ 549755813888) = true := decide_eq_true e3
   have d3' : decide (549755813888 ≤ h.has a) = true := decide_eq_true e3
   have eN : nextL h l ⟨6, a, b, c, n⟩ = .err h l 5 := nl_fund2 (d := ⟨6, a, b, c, n⟩) hgb.out rfl eo.out e3
   replace eN := Lib.hid eN
   go_wp2_with (first | go_skip | (go_at_call 59; refine (within_any _ _ _ _).mono ?_; rintro e w' ⟨rfl, rfl⟩; first | rw [e2]) | (go_at_call 63; refine (refNo_any h _ rfl 5 w.heap.size _ hA).mono ?_; rintro e wn ⟨rfl, hbn⟩) | (refine st_row 29 _ _ rfl rfl _ rfl _ rfl _ _ (hkeep hbn hH) info30 rfl (hc_one _ _ rfl) ?_; intro wa hra hgra hsza) | (refine st_row 44 _ _ rfl rfl _ rfl (rc 5 0 (.slice none 0 0)) rfl _ _ ((hgra.block _ (hlt (hkeep hbn hR)) (by simp)).trans (hkeep hbn hR)) infoRp rfl (rc_one _ _ _ rfl) ?_; intro wb hrb hgrb hszb))
   exact bodyPost_ret (results_hr rfl _ _ _ _ _ _ _ _ _ rfl rfl ((hgrb.block _ (hlt hra) (by simp)).trans hra) hrb) rfl (by rw [eN.out]; exact nexts_end (X := .err h l 5) rfl (bstep hB hB.size hbn) hgra hgrb (hp0.below hbn) (fun hl b off s e => ⟨.inl ⟨rfl, by simp [Nx.err]⟩, by have := hpl.out hl b off s e; omega, by have := hpl.out hl b off s e; omega, by simp [Value.ownBlock]⟩) (OwnInts.nil _ _) (fun x hx => by simp [Value.ownBlock] at hx))
  have eNL := nl_fund (d := ⟨6, a, b, c, n⟩) hgb.out rfl eo.out e3
  have d3 : decide (h.has a ≥ 549755813888) = false := decide_eq_false e3
  have d3' : decide (549755813888 ≤ h.has a) = false := decide_eq_false e3
  replace eNL := Lib.hid eNL
  go_upto_region 45 with (first | go_skip | (go_at_call 59; refine (within_any _ _ _ _).mono ?_; rintro e w' ⟨rfl, rfl⟩; first | rw [e2]))
  go_big_quiet (fail)
  go_upto_region 48 with fail
  clear cH cC
  generalize hWn : World.drewN w4 _ = w9
  replace hA : w9.heap[w.heap.size]? = some (.cells (hc h (.slice a0 l.length cap0)) 29 (0, 0)) := by rw [← hWn]; exact hA
  replace hD : w9.heap[w.heap.size + 1]? = some (.cells (dc ⟨6, a, b, c, n⟩) 40 (0, 0)) := by rw [← hWn]; exact hD
  replace hH : w9.heap[w.heap.size + 2]? = some (.cells (hc Hs.zero (.slice none 0 0)) 29 (0, 0)) := by rw [← hWn]; exact hH
  replace hR : w9.heap[w.heap.size + 3]? = some (.cells (rc 0 0 (.slice none 0 0)) 44 (0, 0)) := by rw [← hWn]; exact hR
  replace hX : w9.heap[bx]? = some (.cells (hc h (.slice a1 l.length cap1)) 29 (0, 0)) := by rw [← hWn]; exact hX
  replace hY : w9.heap[bx + 1]? = some (.cells (rc 0 0 (.slice none 0 0)) 44 (0, 0)) := by rw [← hWn]; exact hY
  replace hB : Below w.heap.size w w9 := by rw [← hWn]; exact below_drewN hB _
  replace hL : Below w1.heap.size w1 w9 := by rw [← hWn]; exact below_drewN hL _
  replace hown : Hid (OwnPays w9 w1.heap.size (.slice a1 l.length cap1) l) := by rw [← hWn]; exact Lib.hid (hown.out.below (below_drewN (Below.refl _ _) _))
  clear hWn cD hp0
  generalize w9 = w4 at *
  have hcI : ∀ w', Below w4.heap.size w4 w' → w'.cell? ⟨w.heap.size + 1, 1, none⟩ = some (.int .i64 a) ∧ w'.cell? ⟨w.heap.size + 1, 4, none⟩ = some (.int .i64 n) ∧ w'.cell? ⟨bx, a.toNat * 2, none⟩ = some (.int .i64 (h.has a)) ∧ True := fun w' hb =>
   have h1 := cells_at (hkeep hb hD)
   ⟨h1 1, h1 4, (cells_at (hkeep hb hX) _).trans (hc_has h _ a q0 q2), trivial⟩
  replace hcI := Lib.hid hcI
  refine wpG_start (Below w4.heap.size w4) 12 (by kernel_rfl) ?_
  have hI0 : Below w4.heap.size w4 w4.drew := (Below.refl _ _).drew
  refine wpG_put 274 (i := 0) (oi := _) (v := (.pointer (some ⟨w.heap.size + 1, 1, none⟩))) [11, 10, 1, 0] rfl rfl (by kernel_rfl) (by kernel_rfl) (by kernel_rfl) (by kernel_rfl) (fun _ _ _ h => h) hI0 ?hy14 ?rs14
  case hy14 => exact Or.inl ⟨by rfl, by intro w' hb; obtain ⟨c1, c2, c3, c4⟩ := hcI.out w' hb; go_simp; first | done | exact IntWalk.i64_in _ (by omega)⟩
  (try simp only [Act.put, List.setIfInBounds_toArray, List.set_cons_succ, List.set_cons_zero])
  refine wpG_put 275 (i := 1) (oi := _) (v := (.int .i64 a)) [11, 10, 1] rfl rfl (by kernel_rfl) (by kernel_rfl) (by kernel_rfl) (by kernel_rfl) (fun _ _ _ h => h) hI0 ?hy15 ?rs15
  case hy15 => exact Or.inl ⟨by rfl, by intro w' hb; obtain ⟨c1, c2, c3, c4⟩ := hcI.out w' hb; go_simp; first | done | exact IntWalk.i64_in _ (by omega)⟩
  (try simp only [Act.put, List.setIfInBounds_toArray, List.set_cons_succ, List.set_cons_zero])
  refine wpG_put 276 (i := 2) (oi := _) (v := (.pointer (some ⟨bx, 0, none⟩))) [8, 5, 4, 3, 2] rfl rfl (by kernel_rfl) (by kernel_rfl) (by kernel_rfl) (by kernel_rfl) (fun _ _ _ h => h) hI0 ?hy16 ?rs16
  case hy16 => exact Or.inl ⟨by rfl, by intro w' hb; obtain ⟨c1, c2, c3, c4⟩ := hcI.out w' hb; go_simp; first | done | exact IntWalk.i64_in _ (by omega)⟩
  (try simp only [Act.put, List.setIfInBounds_toArray, List.set_cons_succ, List.set_cons_zero])
  refine wpG_put 277 (i := 3) (oi := _) (v := (.pointer (some ⟨bx, a.toNat * 2, none⟩))) [8, 5, 4, 3] rfl rfl (by kernel_rfl) (by kernel_rfl) (by kernel_rfl) (by kernel_rfl) (fun _ _ _ h => h) hI0 ?hy17 ?rs17
  case hy17 => exact Or.inl ⟨by rfl, by intro w' hb; obtain ⟨c1, c2, c3, c4⟩ := hcI.out w' hb; go_simp; first | done | exact IntWalk.i64_in _ (by omega)⟩
  (try simp only [Act.put, List.setIfInBounds_toArray, List.set_cons_succ, List.set_cons_zero])
  refine wpG_put 278 (i := 4) (oi := _) (v := (.pointer (some ⟨bx, a.toNat * 2, none⟩))) [8, 5, 4] rfl rfl (by kernel_rfl) (by kernel_rfl) (by kernel_rfl) (by kernel_rfl) (fun _ _ _ h => h) hI0 ?hy18 ?rs18
  case hy18 => exact Or.inl ⟨by rfl, by intro w' hb; obtain ⟨c1, c2, c3, c4⟩ := hcI.out w' hb; go_simp; first | done | exact IntWalk.i64_in _ (by omega)⟩
  (try simp only [Act.put, List.setIfInBounds_toArray, List.set_cons_succ, List.set_cons_zero])
  refine wpG_put 279 (i := 5) (oi := _) (v := (.int .i64 (h.has a))) [8, 5] rfl rfl (by kernel_rfl) (by kernel_rfl) (by kernel_rfl) (by kernel_rfl) (fun _ _ _ h => h) hI0 ?hy19 ?rs19
  case hy19 => exact Or.inl ⟨by rfl, by intro w' hb; obtain ⟨c1, c2, c3, c4⟩ := hcI.out w' hb; go_simp; first | done | exact IntWalk.i64_in _ (by omega)⟩
  (try simp only [Act.put, List.setIfInBounds_toArray, List.set_cons_succ, List.set_cons_zero])
  refine wpG_put 280 (i := 6) (oi := _) (v := (.pointer (some ⟨w.heap.size + 1, 4, none⟩))) [8, 7, 6] rfl rfl (by kernel_rfl) (by kernel_rfl) (by kernel_rfl) (by kernel_rfl) (fun _ _ _ h => h) hI0 ?hy20 ?rs20
  case hy20 => exact Or.inl ⟨by rfl, by intro w' hb; obtain ⟨c1, c2, c3, c4⟩ := hcI.out w' hb; go_simp; first | done | exact IntWalk.i64_in _ (by omega)⟩
  (try simp only [Act.put, List.setIfInBounds_toArray, List.set_cons_succ, List.set_cons_zero])
  refine wpG_put 281 (i := 7) (oi := _) (v := (.int .i64 n)) [8, 7] rfl rfl (by kernel_rfl) (by kernel_rfl) (by kernel_rfl) (by kernel_rfl) (fun _ _ _ h => h) hI0 ?hy21 ?rs21
  case hy21 => exact Or.inl ⟨by rfl, by intro w' hb; obtain ⟨c1, c2, c3, c4⟩ := hcI.out w' hb; go_simp; first | done | exact IntWalk.i64_in _ (by omega)⟩
  (try simp only [Act.put, List.setIfInBounds_toArray, List.set_cons_succ, List.set_cons_zero])
  refine wpG_put 282 (i := 8) (oi := _) (v := (.int .i64 (h.has a + n))) [8] rfl rfl (by kernel_rfl) (by kernel_rfl) (by kernel_rfl) (by kernel_rfl) (fun _ _ _ h => h) hI0 ?hy22 ?rs22
  case hy22 => exact Or.inl ⟨by rfl, by intro w' hb; obtain ⟨c1, c2, c3, c4⟩ := hcI.out w' hb; go_simp; first | done | exact IntWalk.i64_in _ (by omega)⟩
  (try simp only [Act.put, List.setIfInBounds_toArray, List.set_cons_succ, List.set_cons_zero])
  refine wpG_put 283 (i := 9) (oi := _) (v := (.pointer (some ⟨bx, 0, none⟩))) [11, 10, 9] rfl rfl (by kernel_rfl) (by kernel_rfl) (by kernel_rfl) (by kernel_rfl) (fun _ _ _ h => h) hI0 ?hy23 ?rs23
  case hy23 => exact Or.inl ⟨by rfl, by intro w' hb; obtain ⟨c1, c2, c3, c4⟩ := hcI.out w' hb; go_simp; first | done | exact IntWalk.i64_in _ (by omega)⟩
  (try simp only [Act.put, List.setIfInBounds_toArray, List.set_cons_succ, List.set_cons_zero])
  refine wpG_put 284 (i := 10) (oi := _) (v := (.pointer (some ⟨bx, a.toNat * 2, none⟩))) [11, 10] rfl rfl (by kernel_rfl) (by kernel_rfl) (by kernel_rfl) (by kernel_rfl) (fun _ _ _ h => h) hI0 ?hy24 ?rs24
  case hy24 => exact Or.inl ⟨by rfl, by intro w' hb; obtain ⟨c1, c2, c3, c4⟩ := hcI.out w' hb; go_simp; first | done | exact IntWalk.i64_in _ (by omega)⟩
  (try simp only [Act.put, List.setIfInBounds_toArray, List.set_cons_succ, List.set_cons_zero])
  refine wpG_put 285 (i := 11) (oi := _) (v := (.pointer (some ⟨bx, a.toNat * 2, none⟩))) [11] rfl rfl (by kernel_rfl) (by kernel_rfl) (by kernel_rfl) (by kernel_rfl) (fun _ _ _ h => h) hI0 ?hy25 ?rs25
  case hy25 => exact Or.inl ⟨by rfl, by intro w' hb; obtain ⟨c1, c2, c3, c4⟩ := hcI.out w' hb; go_simp; first | done | exact IntWalk.i64_in _ (by omega)⟩
  (try simp only [Act.put, List.setIfInBounds_toArray, List.set_cons_succ, List.set_cons_zero])
  refine wpG_drop 12 rfl (by kernel_rfl) ?_
  simp only [List.drop_succ_cons, List.drop_zero]
  have fX := frozenAt (hkeep hI0 hX)
  have cX : w4.drew.cell? ⟨bx, a.toNat * 2, none⟩ = some (.int .i64 (h.has a)) := (cells_at (hkeep hI0 hX) _).trans (hc_has h _ a q0 q2)
  have hset := hsetSame (i := a.toNat * 2) hX (.int .i64 (h.has a + n))
  rw [hc_setHas _ _ _ _ q0 q2] at hset
  replace hset := Lib.hid hset
  clear hI0
  go_upto_region 62 with fail
  clear cX fX hcI
  generalize hWs : World.drew (World.setCell w4 _ _) = wq
  have hXq : wq.heap[bx]? = some (.cells (hc (h.setHas a (h.has a + n)) (.slice a1 l.length cap1)) 29 (0, 0)) := by rw [← hWs]; exact hset.out
  have hYq : wq.heap[bx + 1]? = some (.cells (rc 0 0 (.slice none 0 0)) 44 (0, 0)) := by rw [← hWs]; exact hsetOther hY (by omega) _
  have hHq : wq.heap[w.heap.size + 2]? = some (.cells (hc Hs.zero (.slice none 0 0)) 29 (0, 0)) := by rw [← hWs]; exact hsetOther hH (by omega) _
  have hRq : wq.heap[w.heap.size + 3]? = some (.cells (rc 0 0 (.slice none 0 0)) 44 (0, 0)) := by rw [← hWs]; exact hsetOther hR (by omega) _
  have hOq : Only (fun b => b = bx) w4 wq := by rw [← hWs]; first | exact only_set bx _ _ _ | exact (only_set bx _ _ _).drew
  have hBq : Below w.heap.size w wq := ((only_new (av := fun b => w.heap.size ≤ b) hB).step hOq fun b e => by left; omega).below (Nat.le_refl _) fun _ h => h
  have hLq : Below w1.heap.size w1 wq := ((only_new (av := fun b => w1.heap.size ≤ b) hL).step hOq fun b e => by left; omega).below (Nat.le_refl _) fun _ h => h
  obtain ⟨_, _, ea, hpa, hpab⟩ := hown.out.at_
  simp only [Value.slice.injEq, true_and] at ea
  obtain ⟨rfl, rfl⟩ := ea
  have hpq : PaysAt wq a1 cap1 l := hOq.pays hpa fun hl b off s e => by have := hob.out b (by rw [e]; rfl); omega
  have hsq : 0 < l.length → ∀ b off s, a1 = some ⟨b, off, s⟩ → (False ∨ w1.heap.size ≤ b) ∧ (Value.slice none 0 0).ownBlock ≠ some b ∧ b ≠ bx ∧ b ≠ bx + 1 := fun hl b off s e => ⟨.inr (hpab b off s e), by simp [Value.ownBlock], by have := hob.out b (by rw [e]; rfl); omega, by have := hob.out b (by rw [e]; rfl); omega⟩
  clear hWs hOq
  have t : Two (fun _ => False) w1 wq bx (bx + 1) ⟨h.setHas a (h.has a + n), l, 0, 0, []⟩ a1 cap1 (Value.slice none 0 0) := ⟨hLq, hXq, hYq, by omega, by omega, by omega, hpq, OwnInts.nil _ _, hsq, ⟨by simp [Value.ownBlock], by simp [Value.ownBlock]⟩⟩
  have eN : nextL h l ⟨6, a, b, c, n⟩ = .swept (⟨h.setHas a (h.has a + n), l, 0, 0, []⟩ : Nx).h (⟨h.setHas a (h.has a + n), l, 0, 0, []⟩ : Nx).l (⟨h.setHas a (h.has a + n), l, 0, 0, []⟩ : Nx).n (⟨h.setHas a (h.has a + n), l, 0, 0, []⟩ : Nx).done := eNL.out
  have hsm : (⟨h.setHas a (h.has a + n), l, 0, 0, []⟩ : Nx).done.length ≤ 24 ∧ (⟨h.setHas a (h.has a + n), l, 0, 0, []⟩ : Nx).l.length ≤ 25 ∧ (⟨h.setHas a (h.has a + n), l, 0, 0, []⟩ : Nx).code = 0 := ⟨by simp, by simp; omega, rfl⟩
  obtain ⟨M, hM⟩ : ∃ M : Nx, ⟨h.setHas a (h.has a + n), l, 0, 0, []⟩ = M := ⟨_, rfl⟩
  rw [hM] at t eN hsm
  replace hM := Lib.hid hM
  obtain ⟨hdM, hlM, hcM⟩ := hsm
  obtain ⟨vr, hvr⟩ : ∃ vr : Value, (Value.slice none 0 0) = vr := ⟨_, rfl⟩
  rw [hvr] at t
  replace hvr := Lib.hid hvr
  obtain ⟨ax, hax⟩ : ∃ ax : Option Addr, a1 = ax := ⟨_, rfl⟩
  rw [hax] at t
  replace hax := Lib.hid hax
  obtain ⟨al, cl, rfl, _, hal⟩ := t.ints.at_
  have hx := t.hx
  have hy := t.hy
  rw [hcM] at hy
  have hsc := t.low.size
  have cS := fun w hp => sweepHouse_anyS M.h M.l ax cap1 w hp
  obtain ⟨T, hT⟩ : ∃ T, sweepG M.h M.l = T := ⟨_, rfl⟩
  rw [hT] at cS
  have eX : nextL h l ⟨6, a, b, c, n⟩ = ⟨T.h, T.l, 0, M.n, M.done ++ T.d⟩ := by rw [eN, ← hT]; rfl
  have hlT : T.l.length = M.l.length := by rw [← hT]; exact (sweep_ext M.h M.l).len
  have hdT : T.d.length ≤ M.l.length := by rw [← hT]; exact ext_le (sweep_ext M.h M.l)
  clear eN
  replace hcM := Lib.hid hcM
  replace eX := Lib.hid eX
  replace cS := Lib.hid cS
  replace hT := Lib.hid hT
  replace hal := Lib.hid hal
  replace hlT := Lib.hid hlT
  clear hXq hYq hLq
  go_upto_region 63 with (first | go_skip | (refine ld_row 29 _ rfl rfl _ rfl _ _ _ _ hx Try.underlying29 rfl info30 ?_) | (go_at_call 67; refine (cS.out _ t.pays).mono ?_; rintro e w5 ⟨⟨a2, cap2, v2, rfl, hp2, ho2, hfa, hap⟩, hb5⟩) | (refine st_new 29 _ _ rfl _ 29 _ rfl rfl rfl (hc T.h (.slice a2 T.l.length cap2)) rfl info30 rfl (hc_one _ _ rfl) ?_))
  have hZ6 := hnew w5 (.cells (hc T.h (.slice a2 T.l.length cap2)) 29)
  have hb6 := hb5.alloc hb5.size (.cells (hc T.h (.slice a2 T.l.length cap2)) 29)
  have hs5 := hb5.size
  have hxl := hlt hx
  have hyl := hlt hy
  have hfb : 0 < T.l.length → ∀ b off s, a2 = some ⟨b, off, s⟩ → (w1.heap.size ≤ b ∧ b ≠ w5.heap.size ∧ b ≠ bx + 1 ∧ (Value.slice al (nats M.done).length cl).ownBlock ≠ some b) := fun hl b off s e => by
   have hbl : b < w5.heap.size := by
    obtain ⟨b', off', e', hbl, _⟩ := hp2.row hl
    rw [e] at e'; cases e'; exact hbl
   rcases hfa b off s e with ⟨off', s', e'⟩ | hge
   ·have hs := t.src (by rw [← hlT.out]; exact hl) b off' s' e'
    exact ⟨hs.1.resolve_left id, by omega, hs.2.2.2, hs.2.1⟩
   ·exact ⟨by omega, by omega, by omega, fun e => by have := ints_own_lt t.ints e; omega⟩
  have hp6 := hp2.alloc (.cells (hc T.h (.slice a2 T.l.length cap2)) 29)
  have ho6 := ho2.alloc (.cells (hc T.h (.slice a2 T.l.length cap2)) 29)
  have hv6 : OwnInts (w5.alloc (.cells (hc T.h (.slice a2 T.l.length cap2)) 29)) w1.heap.size (.slice al (nats M.done).length cl) (nats M.done) := t.ints.below hb6
  have hy6 := hkeep hb6 hy
  have hH6 := hkeep hb6 hHq
  have hR6 := hkeep hb6 hRq
  have hB6 := bstep hBq hBq.size hb6
  have hs6 : w5.heap.size < (w5.alloc (.cells (hc T.h (.slice a2 T.l.length cap2)) 29)).heap.size := by simp
  generalize w5.alloc (.cells (hc T.h (.slice a2 T.l.length cap2)) 29) = w6 at *
  generalize w5.heap.size = bz at *
  have hdM2 : (nats M.done).length ≤ 24 := by rw [nats_len]; exact hdM
  have hdT2 : (nats T.d).length ≤ 25 := by rw [nats_len]; omega
  have cY6 := cells_at hy6
  have htl := t.list
  have hto := fun k hk => t.ints.own (x := k) hk
  clear hb6 hb5 hx hy hp2 ho2 t
  replace hv6 := Lib.hid hv6
  replace ho6 := Lib.hid ho6
  replace hfb := Lib.hid hfb
  replace htl := Lib.hid htl
  replace hto := Lib.hid hto
  go_upto_region 64 with (first | go_skip | (at_builtin; refine wpList_append_ints rfl _ _ rfl w1.heap.size wq.heap.size (.slice al (nats M.done).length cl) v2 (nats M.done) (nats T.d) rfl rfl hv6.out ho6.out (by omega) (by omega) ?_; intro v3 w7 ho7 hgr7 hfr7; obtain ⟨a3, c3, rfl, _, _⟩ := ho7.at_; generalize (nats M.done ++ nats T.d).length = n3 at *; have hy7 := (hgr7.block (bx + 1) (hlt hy6) fun e => htl.out.2 e.symm).trans hy6; have fY := frozenAt hy7; have cY := cells_at hy7; have hset := hsetSame (i := 2) hy7 (.slice a3 n3 c3); replace hset := Lib.hid hset))
  have hZ7 := (hgr7.block bz (hlt hZ6) fun e => by have := ints_own_lt hv6.out e.symm; have := hto.out _ e.symm; exact absurd e.symm (by intro e'; obtain ⟨_, c', h'⟩ := owns_block' hv6.out.1 e'; rw [hZ6] at h'; injection Option.some.inj h' with _ ht _; exact absurd ht (by decide))).trans hZ6
  have hH7 := (hgr7.block _ (hlt hH6) fun e => by have := hto.out _ e.symm; omega).trans hH6
  have hR7 := (hgr7.block _ (hlt hR6) fun e => by have := hto.out _ e.symm; omega).trans hR6
  have hp7 := (only_grown hgr7).pays hp6 fun hl b off s e => (hfb.out hl b off s e).2.2.2
  have hB7 := hB6.grown hgr7 hB6.size fun k hk => by have := hto.out k hk; omega
  have hne3 : ∀ k, (Value.slice a3 n3 c3).ownBlock = some k → w1.heap.size ≤ k ∧ k ≠ bx + 1 ∧ ∀ (b off : Nat) (s : Option Nat), 0 < T.l.length → a2 = some ⟨b, off, s⟩ → k ≠ b := fun k hk => by
   rcases hfr7 k hk with h1 | h1
   ·exact ⟨hto.out k h1, fun e => htl.out.2 (e ▸ h1), fun b off s hl e e' => (hfb.out hl b off s e).2.2.2 (e' ▸ h1)⟩
   ·have hly := hlt hy6
    refine ⟨by omega, by omega, fun b off s hl e e' => ?_⟩
    obtain ⟨b', off', e2, hbl, _⟩ := hp6.row hl
    rw [e] at e2; cases e2; omega
  clear hgr7 hZ6 hH6 hR6 hp6 hB6 hy6 cY6 hv6 ho6 fY cY
  generalize hWs : World.setCell w7 _ _ = w8
  have hy8 : w8.heap[bx + 1]? = some (.cells (rc 0 M.n (.slice a3 n3 c3)) 44 (0, 0)) := by rw [← hWs]; exact hset.out
  have hZ8 : w8.heap[bz]? = some (.cells (hc T.h (.slice a2 T.l.length cap2)) 29 (0, 0)) := by rw [← hWs]; exact hsetOther hZ7 (by omega) _
  have hH8 : w8.heap[w.heap.size + 2]? = some (.cells (hc Hs.zero (.slice none 0 0)) 29 (0, 0)) := by rw [← hWs]; exact hsetOther hH7 (by omega) _
  have hR8 : w8.heap[w.heap.size + 3]? = some (.cells (rc 0 0 (.slice none 0 0)) 44 (0, 0)) := by rw [← hWs]; exact hsetOther hR7 (by omega) _
  have hp8 : PaysAt w8 a2 cap2 T.l := by rw [← hWs]; exact pay_set hp7 _ _ _ fun hl b off s e => (hfb.out hl b off s e).2.2.1
  have hB8 : Below w.heap.size w w8 := by rw [← hWs]; exact hB7.setCell (by show w.heap.size ≤ bx + 1; omega) _
  have ho8 : OwnInts w8 w.heap.size (.slice a3 n3 c3) (nats (M.done ++ T.d)) := by
   rw [nats_app, ← hWs]
   exact ⟨owns_only' (ho7.mono (by omega)).1 (only_set (bx + 1) 2 _ w7) fun x hx e => (hne3 x hx).2.1 e, ho7.2⟩
  replace ho8 := Lib.hid ho8
  replace hne3 := Lib.hid hne3
  clear hWs hset hZ7 hH7 hR7 hp7 hB7 hy7 ho7
  have hHd : w8.drew.heap[w.heap.size + 2]? = _ := hH8
  have hRd : w8.drew.heap[w.heap.size + 3]? = _ := hR8
  have hxd : w8.drew.heap[bz]? = some (.cells (hc T.h (.slice a2 T.l.length cap2)) 29 (0, 0)) := hZ8
  have hyd : w8.drew.heap[bx + 1]? = some (.cells (rc 0 M.n (.slice a3 n3 c3)) 44 (0, 0)) := hy8
  go_upto_region 64 with fail
  refine wpG_start (fun w' : World => w'.heap[bz]? = some (.cells (hc T.h (.slice a2 T.l.length cap2)) 29 (0, 0)) ∧ w'.heap[bx + 1]? = some (.cells (rc 0 M.n (.slice a3 n3 c3)) 44 (0, 0))) 3 (by kernel_rfl) ?_
  have hI0 : (fun w' : World => w'.heap[bz]? = some (.cells (hc T.h (.slice a2 T.l.length cap2)) 29 (0, 0)) ∧ w'.heap[bx + 1]? = some (.cells (rc 0 M.n (.slice a3 n3 c3)) 44 (0, 0))) w8.drew := ⟨hxd, hyd⟩
  refine wpG_put 347 (i := 0) (oi := _) (v := (.agg (hc T.h (.slice a2 T.l.length cap2)))) [0] rfl rfl (by kernel_rfl) (by kernel_rfl) (by kernel_rfl) (by kernel_rfl) (fun _ _ _ h => h) hI0 ?hy26 ?rs26
  case hy26 => exact yields_row 29 _ rfl rfl _ rfl _ _ _ _ (fun w' hb => hb.1) Try.underlying29 rfl info30
  (try simp only [Act.put, List.setIfInBounds_toArray, List.set_cons_succ, List.set_cons_zero])
  refine wpG_put 348 (i := 1) (oi := _) (v := (.agg (rc 0 M.n (.slice a3 n3 c3)))) [1] rfl rfl (by kernel_rfl) (by kernel_rfl) (by kernel_rfl) (by kernel_rfl) (fun _ _ _ h => h) hI0 ?hy27 ?rs27
  case hy27 => exact yields_row 44 _ rfl rfl _ rfl _ _ _ _ (fun w' hb => hb.2) Try.underlying44 rfl infoRp
  (try simp only [Act.put, List.setIfInBounds_toArray, List.set_cons_succ, List.set_cons_zero])
  clear hI0
  refine wpG_one (i := 2) (by kernel_rfl) rfl ?_
  go_wp2_with (first | go_skip | (refine st_row 29 _ _ rfl rfl _ rfl _ rfl _ _ hHd info30 rfl (hc_one _ _ rfl) ?_; intro wa hra hgra hsza))
  refine ⟨⟨(hgra.block _ (hlt hxd) (by simp; omega)).trans hxd, (hgra.block _ (hlt hyd) (by simp; omega)).trans hyd⟩, ?_⟩
  (try simp only [Act.put, List.setIfInBounds_toArray, List.set_cons_succ, List.set_cons_zero])
  refine wpG_drop 3 rfl (by kernel_rfl) ?_
  simp only [List.drop_succ_cons, List.drop_zero]
  go_wp2_with (first | go_skip | (refine st_row 44 _ _ rfl rfl _ rfl (rc 0 M.n (.slice a3 n3 c3)) rfl _ _ ((hgra.block _ (hlt hRd) (by simp)).trans hRd) infoRp rfl (rc_one _ _ _ rfl) ?_; intro wb hrb hgrb hszb))
  exact bodyPost_ret (results_hr rfl _ _ _ _ _ _ _ _ _ rfl rfl ((hgrb.block _ (hlt hra) (by simp)).trans hra) hrb) rfl (by rw [eX.out]; exact nexts_end (X := ⟨T.h, T.l, 0, M.n, M.done ++ T.d⟩) rfl hB8.drew hgra hgrb (hp8.below (Below.refl _ _).drew) (fun hl b off s e => by have hs := hfb.out hl b off s e; exact ⟨.inr (by omega), by omega, by omega, fun e' => (hne3.out b e').2.2 b off s hl e rfl⟩) (ho8.out.below (Below.refl _ _).drew) (fun k hk => by have h1 := (hne3.out k hk).1; omega))
 ·by_cases e1 : sm 0 a 3 = false
  ·have eN : nextL h l ⟨7, a, b, c, n⟩ = .err h l 3 := nl_fs1 hgb.out (.inr rfl) (.inl e1)
   replace eN := Lib.hid eN
   go_wp2_with (first | go_skip | (go_at_call 63; refine (refNo_any h _ rfl 3 w.heap.size _ hA).mono ?_; rintro e wn ⟨rfl, hbn⟩) | (refine st_row 29 _ _ rfl rfl _ rfl _ rfl _ _ (hkeep hbn hH) info30 rfl (hc_one _ _ rfl) ?_; intro wa hra hgra hsza) | (refine st_row 44 _ _ rfl rfl _ rfl (rc 3 0 (.slice none 0 0)) rfl _ _ ((hgra.block _ (hlt (hkeep hbn hR)) (by simp)).trans (hkeep hbn hR)) infoRp rfl (rc_one _ _ _ rfl) ?_; intro wb hrb hgrb hszb))
   exact bodyPost_ret (results_hr rfl _ _ _ _ _ _ _ _ _ rfl rfl ((hgrb.block _ (hlt hra) (by simp)).trans hra) hrb) rfl (by rw [eN.out]; exact nexts_end (X := .err h l 3) rfl (bstep hB hB.size hbn) hgra hgrb (hp0.below hbn) (fun hl b off s e => ⟨.inl ⟨rfl, by simp [Nx.err]⟩, by have := hpl.out hl b off s e; omega, by have := hpl.out hl b off s e; omega, by simp [Value.ownBlock]⟩) (OwnInts.nil _ _) (fun x hx => by simp [Value.ownBlock] at hx))
  have e1 : sm 0 a 3 = true := by simpa using e1
  by_cases e2 : sm 1 n 1000000 = false
  ·have eN : nextL h l ⟨7, a, b, c, n⟩ = .err h l 3 := nl_fs1 hgb.out (.inr rfl) (.inr e2)
   replace eN := Lib.hid eN
   go_wp2_with (first | go_skip | (go_at_call 59; refine (within_any _ _ _ _).mono ?_; rintro e w' ⟨rfl, rfl⟩; first | rw [e2]) | (go_at_call 63; refine (refNo_any h _ rfl 3 w.heap.size _ hA).mono ?_; rintro e wn ⟨rfl, hbn⟩) | (refine st_row 29 _ _ rfl rfl _ rfl _ rfl _ _ (hkeep hbn hH) info30 rfl (hc_one _ _ rfl) ?_; intro wa hra hgra hsza) | (refine st_row 44 _ _ rfl rfl _ rfl (rc 3 0 (.slice none 0 0)) rfl _ _ ((hgra.block _ (hlt (hkeep hbn hR)) (by simp)).trans (hkeep hbn hR)) infoRp rfl (rc_one _ _ _ rfl) ?_; intro wb hrb hgrb hszb))
   exact bodyPost_ret (results_hr rfl _ _ _ _ _ _ _ _ _ rfl rfl ((hgrb.block _ (hlt hra) (by simp)).trans hra) hrb) rfl (by rw [eN.out]; exact nexts_end (X := .err h l 3) rfl (bstep hB hB.size hbn) hgra hgrb (hp0.below hbn) (fun hl b off s e => ⟨.inl ⟨rfl, by simp [Nx.err]⟩, by have := hpl.out hl b off s e; omega, by have := hpl.out hl b off s e; omega, by simp [Value.ownBlock]⟩) (OwnInts.nil _ _) (fun x hx => by simp [Value.ownBlock] at hx))
  have e2 : sm 1 n 1000000 = true := by simpa using e2
  have eo : ¬ (sm 0 a 3 = false ∨ sm 1 n 1000000 = false) := by simp [e1, e2]
  obtain ⟨q0, q1⟩ := sm_true e1
  have q2 : a < 4 := by omega
  obtain ⟨n0, n1⟩ := sm_true e2
  obtain ⟨r0, r1⟩ := sm_true (g.banks a q0 q2).has
  obtain ⟨s0, s1⟩ := sm_true (g.banks a q0 q2).cr
  have cH : w4.cell? ⟨w.heap.size, a.toNat * 2, none⟩ = some (.int .i64 (h.has a)) := (cells_at hA _).trans (hc_has h _ a q0 q2)
  have cC : w4.cell? ⟨w.heap.size, a.toNat * 2 + 1, none⟩ = some (.int .i64 (h.cr a)) := (cells_at hA _).trans (hc_cr h _ a q0 q2)
  replace eo := Lib.hid eo
  clear cA
  by_cases e3 : h.has a + h.cr a < n
  ·have d3 : decide (h.has a + h.cr a < n) = true := decide_eq_true e3
   replace e3 := Lib.hid e3
   go_upto_region 45 with (first | go_skip | (go_at_call 59; refine (within_any _ _ _ _).mono ?_; rintro e w' ⟨rfl, rfl⟩; first | rw [e2]))
   go_big_quiet (fail)
   go_upto_region 46 with fail
   clear cH cC cD
   generalize hWn : World.drewN w4 _ = w9
   replace hA : w9.heap[w.heap.size]? = some (.cells (hc h (.slice a0 l.length cap0)) 29 (0, 0)) := by rw [← hWn]; exact hA
   replace hH : w9.heap[w.heap.size + 2]? = some (.cells (hc Hs.zero (.slice none 0 0)) 29 (0, 0)) := by rw [← hWn]; exact hH
   replace hR : w9.heap[w.heap.size + 3]? = some (.cells (rc 0 0 (.slice none 0 0)) 44 (0, 0)) := by rw [← hWn]; exact hR
   replace hB : Below w.heap.size w w9 := by rw [← hWn]; exact below_drewN hB _
   replace hp0 : PaysAt w9 a0 cap0 l := by rw [← hWn]; exact hp0.below (below_drewN (Below.refl _ _) _)
   have eN : nextL h l ⟨7, a, b, c, n⟩ = .err h l 6 := nl_spend2 (d := ⟨7, a, b, c, n⟩) hgb.out rfl eo.out e3.out
   replace eN := Lib.hid eN
   go_wp2_with (first | go_skip | (go_at_call 63; refine (refNo_any h _ rfl 6 w.heap.size _ hA).mono ?_; rintro e wn ⟨rfl, hbn⟩) | (refine st_row 29 _ _ rfl rfl _ rfl _ rfl _ _ (hkeep hbn hH) info30 rfl (hc_one _ _ rfl) ?_; intro wa hra hgra hsza) | (refine st_row 44 _ _ rfl rfl _ rfl (rc 6 0 (.slice none 0 0)) rfl _ _ ((hgra.block _ (hlt (hkeep hbn hR)) (by simp)).trans (hkeep hbn hR)) infoRp rfl (rc_one _ _ _ rfl) ?_; intro wb hrb hgrb hszb))
   exact bodyPost_ret (results_hr rfl _ _ _ _ _ _ _ _ _ rfl rfl ((hgrb.block _ (hlt hra) (by simp)).trans hra) hrb) rfl (by rw [eN.out]; exact nexts_end (X := .err h l 6) rfl (bstep hB hB.size hbn) hgra hgrb (hp0.below hbn) (fun hl b off s e => ⟨.inl ⟨rfl, by simp [Nx.err]⟩, by have := hpl.out hl b off s e; omega, by have := hpl.out hl b off s e; omega, by simp [Value.ownBlock]⟩) (OwnInts.nil _ _) (fun x hx => by simp [Value.ownBlock] at hx))
  have eNL := nl_spend (d := ⟨7, a, b, c, n⟩) hgb.out rfl eo.out e3
  have d3 : decide (h.has a + h.cr a < n) = false := decide_eq_false e3
  replace eNL := Lib.hid eNL
  go_upto_region 45 with (first | go_skip | (go_at_call 59; refine (within_any _ _ _ _).mono ?_; rintro e w' ⟨rfl, rfl⟩; first | rw [e2]))
  go_big_quiet (fail)
  go_upto_region 49 with fail
  clear cH cC
  generalize hWn : World.drewN w4 _ = w9
  replace hA : w9.heap[w.heap.size]? = some (.cells (hc h (.slice a0 l.length cap0)) 29 (0, 0)) := by rw [← hWn]; exact hA
  replace hD : w9.heap[w.heap.size + 1]? = some (.cells (dc ⟨7, a, b, c, n⟩) 40 (0, 0)) := by rw [← hWn]; exact hD
  replace hH : w9.heap[w.heap.size + 2]? = some (.cells (hc Hs.zero (.slice none 0 0)) 29 (0, 0)) := by rw [← hWn]; exact hH
  replace hR : w9.heap[w.heap.size + 3]? = some (.cells (rc 0 0 (.slice none 0 0)) 44 (0, 0)) := by rw [← hWn]; exact hR
  replace hX : w9.heap[bx]? = some (.cells (hc h (.slice a1 l.length cap1)) 29 (0, 0)) := by rw [← hWn]; exact hX
  replace hY : w9.heap[bx + 1]? = some (.cells (rc 0 0 (.slice none 0 0)) 44 (0, 0)) := by rw [← hWn]; exact hY
  replace hB : Below w.heap.size w w9 := by rw [← hWn]; exact below_drewN hB _
  replace hL : Below w1.heap.size w1 w9 := by rw [← hWn]; exact below_drewN hL _
  replace hown : Hid (OwnPays w9 w1.heap.size (.slice a1 l.length cap1) l) := by rw [← hWn]; exact Lib.hid (hown.out.below (below_drewN (Below.refl _ _) _))
  clear hWn cD hp0
  generalize w9 = w4 at *
  have hcI : ∀ w', Below w4.heap.size w4 w' → w'.cell? ⟨w.heap.size + 1, 1, none⟩ = some (.int .i64 a) ∧ w'.cell? ⟨w.heap.size + 1, 4, none⟩ = some (.int .i64 n) ∧ w'.cell? ⟨bx, a.toNat * 2, none⟩ = some (.int .i64 (h.has a)) ∧ True := fun w' hb =>
   have h1 := cells_at (hkeep hb hD)
   ⟨h1 1, h1 4, (cells_at (hkeep hb hX) _).trans (hc_has h _ a q0 q2), trivial⟩
  replace hcI := Lib.hid hcI
  refine wpG_start (Below w4.heap.size w4) 12 (by kernel_rfl) ?_
  have hI0 : Below w4.heap.size w4 w4.drew := (Below.refl _ _).drew
  refine wpG_put 286 (i := 0) (oi := _) (v := (.pointer (some ⟨w.heap.size + 1, 1, none⟩))) [11, 10, 1, 0] rfl rfl (by kernel_rfl) (by kernel_rfl) (by kernel_rfl) (by kernel_rfl) (fun _ _ _ h => h) hI0 ?hy28 ?rs28
  case hy28 => exact Or.inl ⟨by rfl, by intro w' hb; obtain ⟨c1, c2, c3, c4⟩ := hcI.out w' hb; go_simp; first | done | exact IntWalk.i64_in _ (by omega)⟩
  (try simp only [Act.put, List.setIfInBounds_toArray, List.set_cons_succ, List.set_cons_zero])
  refine wpG_put 287 (i := 1) (oi := _) (v := (.int .i64 a)) [11, 10, 1] rfl rfl (by kernel_rfl) (by kernel_rfl) (by kernel_rfl) (by kernel_rfl) (fun _ _ _ h => h) hI0 ?hy29 ?rs29
  case hy29 => exact Or.inl ⟨by rfl, by intro w' hb; obtain ⟨c1, c2, c3, c4⟩ := hcI.out w' hb; go_simp; first | done | exact IntWalk.i64_in _ (by omega)⟩
  (try simp only [Act.put, List.setIfInBounds_toArray, List.set_cons_succ, List.set_cons_zero])
  refine wpG_put 288 (i := 2) (oi := _) (v := (.pointer (some ⟨bx, 0, none⟩))) [8, 5, 4, 3, 2] rfl rfl (by kernel_rfl) (by kernel_rfl) (by kernel_rfl) (by kernel_rfl) (fun _ _ _ h => h) hI0 ?hy30 ?rs30
  case hy30 => exact Or.inl ⟨by rfl, by intro w' hb; obtain ⟨c1, c2, c3, c4⟩ := hcI.out w' hb; go_simp; first | done | exact IntWalk.i64_in _ (by omega)⟩
  (try simp only [Act.put, List.setIfInBounds_toArray, List.set_cons_succ, List.set_cons_zero])
  refine wpG_put 289 (i := 3) (oi := _) (v := (.pointer (some ⟨bx, a.toNat * 2, none⟩))) [8, 5, 4, 3] rfl rfl (by kernel_rfl) (by kernel_rfl) (by kernel_rfl) (by kernel_rfl) (fun _ _ _ h => h) hI0 ?hy31 ?rs31
  case hy31 => exact Or.inl ⟨by rfl, by intro w' hb; obtain ⟨c1, c2, c3, c4⟩ := hcI.out w' hb; go_simp; first | done | exact IntWalk.i64_in _ (by omega)⟩
  (try simp only [Act.put, List.setIfInBounds_toArray, List.set_cons_succ, List.set_cons_zero])
  refine wpG_put 290 (i := 4) (oi := _) (v := (.pointer (some ⟨bx, a.toNat * 2, none⟩))) [8, 5, 4] rfl rfl (by kernel_rfl) (by kernel_rfl) (by kernel_rfl) (by kernel_rfl) (fun _ _ _ h => h) hI0 ?hy32 ?rs32
  case hy32 => exact Or.inl ⟨by rfl, by intro w' hb; obtain ⟨c1, c2, c3, c4⟩ := hcI.out w' hb; go_simp; first | done | exact IntWalk.i64_in _ (by omega)⟩
  (try simp only [Act.put, List.setIfInBounds_toArray, List.set_cons_succ, List.set_cons_zero])
  refine wpG_put 291 (i := 5) (oi := _) (v := (.int .i64 (h.has a))) [8, 5] rfl rfl (by kernel_rfl) (by kernel_rfl) (by kernel_rfl) (by kernel_rfl) (fun _ _ _ h => h) hI0 ?hy33 ?rs33
  case hy33 => exact Or.inl ⟨by rfl, by intro w' hb; obtain ⟨c1, c2, c3, c4⟩ := hcI.out w' hb; go_simp; first | done | exact IntWalk.i64_in _ (by omega)⟩
  (try simp only [Act.put, List.setIfInBounds_toArray, List.set_cons_succ, List.set_cons_zero])
  refine wpG_put 292 (i := 6) (oi := _) (v := (.pointer (some ⟨w.heap.size + 1, 4, none⟩))) [8, 7, 6] rfl rfl (by kernel_rfl) (by kernel_rfl) (by kernel_rfl) (by kernel_rfl) (fun _ _ _ h => h) hI0 ?hy34 ?rs34
  case hy34 => exact Or.inl ⟨by rfl, by intro w' hb; obtain ⟨c1, c2, c3, c4⟩ := hcI.out w' hb; go_simp; first | done | exact IntWalk.i64_in _ (by omega)⟩
  (try simp only [Act.put, List.setIfInBounds_toArray, List.set_cons_succ, List.set_cons_zero])
  refine wpG_put 293 (i := 7) (oi := _) (v := (.int .i64 n)) [8, 7] rfl rfl (by kernel_rfl) (by kernel_rfl) (by kernel_rfl) (by kernel_rfl) (fun _ _ _ h => h) hI0 ?hy35 ?rs35
  case hy35 => exact Or.inl ⟨by rfl, by intro w' hb; obtain ⟨c1, c2, c3, c4⟩ := hcI.out w' hb; go_simp; first | done | exact IntWalk.i64_in _ (by omega)⟩
  (try simp only [Act.put, List.setIfInBounds_toArray, List.set_cons_succ, List.set_cons_zero])
  refine wpG_put 294 (i := 8) (oi := _) (v := (.int .i64 (h.has a - n))) [8] rfl rfl (by kernel_rfl) (by kernel_rfl) (by kernel_rfl) (by kernel_rfl) (fun _ _ _ h => h) hI0 ?hy36 ?rs36
  case hy36 => exact Or.inl ⟨by rfl, by intro w' hb; obtain ⟨c1, c2, c3, c4⟩ := hcI.out w' hb; go_simp; first | done | exact IntWalk.i64_in _ (by omega)⟩
  (try simp only [Act.put, List.setIfInBounds_toArray, List.set_cons_succ, List.set_cons_zero])
  refine wpG_put 295 (i := 9) (oi := _) (v := (.pointer (some ⟨bx, 0, none⟩))) [11, 10, 9] rfl rfl (by kernel_rfl) (by kernel_rfl) (by kernel_rfl) (by kernel_rfl) (fun _ _ _ h => h) hI0 ?hy37 ?rs37
  case hy37 => exact Or.inl ⟨by rfl, by intro w' hb; obtain ⟨c1, c2, c3, c4⟩ := hcI.out w' hb; go_simp; first | done | exact IntWalk.i64_in _ (by omega)⟩
  (try simp only [Act.put, List.setIfInBounds_toArray, List.set_cons_succ, List.set_cons_zero])
  refine wpG_put 296 (i := 10) (oi := _) (v := (.pointer (some ⟨bx, a.toNat * 2, none⟩))) [11, 10] rfl rfl (by kernel_rfl) (by kernel_rfl) (by kernel_rfl) (by kernel_rfl) (fun _ _ _ h => h) hI0 ?hy38 ?rs38
  case hy38 => exact Or.inl ⟨by rfl, by intro w' hb; obtain ⟨c1, c2, c3, c4⟩ := hcI.out w' hb; go_simp; first | done | exact IntWalk.i64_in _ (by omega)⟩
  (try simp only [Act.put, List.setIfInBounds_toArray, List.set_cons_succ, List.set_cons_zero])
  refine wpG_put 297 (i := 11) (oi := _) (v := (.pointer (some ⟨bx, a.toNat * 2, none⟩))) [11] rfl rfl (by kernel_rfl) (by kernel_rfl) (by kernel_rfl) (by kernel_rfl) (fun _ _ _ h => h) hI0 ?hy39 ?rs39
  case hy39 => exact Or.inl ⟨by rfl, by intro w' hb; obtain ⟨c1, c2, c3, c4⟩ := hcI.out w' hb; go_simp; first | done | exact IntWalk.i64_in _ (by omega)⟩
  (try simp only [Act.put, List.setIfInBounds_toArray, List.set_cons_succ, List.set_cons_zero])
  refine wpG_drop 12 rfl (by kernel_rfl) ?_
  simp only [List.drop_succ_cons, List.drop_zero]
  have fX := frozenAt (hkeep hI0 hX)
  have cX : w4.drew.cell? ⟨bx, a.toNat * 2, none⟩ = some (.int .i64 (h.has a)) := (cells_at (hkeep hI0 hX) _).trans (hc_has h _ a q0 q2)
  have hset := hsetSame (i := a.toNat * 2) hX (.int .i64 (h.has a - n))
  rw [hc_setHas _ _ _ _ q0 q2] at hset
  replace hset := Lib.hid hset
  clear hI0
  go_upto_region 62 with fail
  clear cX fX hcI
  generalize hWs : World.drew (World.setCell w4 _ _) = wq
  have hXq : wq.heap[bx]? = some (.cells (hc (h.setHas a (h.has a - n)) (.slice a1 l.length cap1)) 29 (0, 0)) := by rw [← hWs]; exact hset.out
  have hYq : wq.heap[bx + 1]? = some (.cells (rc 0 0 (.slice none 0 0)) 44 (0, 0)) := by rw [← hWs]; exact hsetOther hY (by omega) _
  have hHq : wq.heap[w.heap.size + 2]? = some (.cells (hc Hs.zero (.slice none 0 0)) 29 (0, 0)) := by rw [← hWs]; exact hsetOther hH (by omega) _
  have hRq : wq.heap[w.heap.size + 3]? = some (.cells (rc 0 0 (.slice none 0 0)) 44 (0, 0)) := by rw [← hWs]; exact hsetOther hR (by omega) _
  have hOq : Only (fun b => b = bx) w4 wq := by rw [← hWs]; first | exact only_set bx _ _ _ | exact (only_set bx _ _ _).drew
  have hBq : Below w.heap.size w wq := ((only_new (av := fun b => w.heap.size ≤ b) hB).step hOq fun b e => by left; omega).below (Nat.le_refl _) fun _ h => h
  have hLq : Below w1.heap.size w1 wq := ((only_new (av := fun b => w1.heap.size ≤ b) hL).step hOq fun b e => by left; omega).below (Nat.le_refl _) fun _ h => h
  obtain ⟨_, _, ea, hpa, hpab⟩ := hown.out.at_
  simp only [Value.slice.injEq, true_and] at ea
  obtain ⟨rfl, rfl⟩ := ea
  have hpq : PaysAt wq a1 cap1 l := hOq.pays hpa fun hl b off s e => by have := hob.out b (by rw [e]; rfl); omega
  have hsq : 0 < l.length → ∀ b off s, a1 = some ⟨b, off, s⟩ → (False ∨ w1.heap.size ≤ b) ∧ (Value.slice none 0 0).ownBlock ≠ some b ∧ b ≠ bx ∧ b ≠ bx + 1 := fun hl b off s e => ⟨.inr (hpab b off s e), by simp [Value.ownBlock], by have := hob.out b (by rw [e]; rfl); omega, by have := hob.out b (by rw [e]; rfl); omega⟩
  clear hWs hOq
  have t : Two (fun _ => False) w1 wq bx (bx + 1) ⟨h.setHas a (h.has a - n), l, 0, 0, []⟩ a1 cap1 (Value.slice none 0 0) := ⟨hLq, hXq, hYq, by omega, by omega, by omega, hpq, OwnInts.nil _ _, hsq, ⟨by simp [Value.ownBlock], by simp [Value.ownBlock]⟩⟩
  have eN : nextL h l ⟨7, a, b, c, n⟩ = .swept (⟨h.setHas a (h.has a - n), l, 0, 0, []⟩ : Nx).h (⟨h.setHas a (h.has a - n), l, 0, 0, []⟩ : Nx).l (⟨h.setHas a (h.has a - n), l, 0, 0, []⟩ : Nx).n (⟨h.setHas a (h.has a - n), l, 0, 0, []⟩ : Nx).done := eNL.out
  have hsm : (⟨h.setHas a (h.has a - n), l, 0, 0, []⟩ : Nx).done.length ≤ 24 ∧ (⟨h.setHas a (h.has a - n), l, 0, 0, []⟩ : Nx).l.length ≤ 25 ∧ (⟨h.setHas a (h.has a - n), l, 0, 0, []⟩ : Nx).code = 0 := ⟨by simp, by simp; omega, rfl⟩
  obtain ⟨M, hM⟩ : ∃ M : Nx, ⟨h.setHas a (h.has a - n), l, 0, 0, []⟩ = M := ⟨_, rfl⟩
  rw [hM] at t eN hsm
  replace hM := Lib.hid hM
  obtain ⟨hdM, hlM, hcM⟩ := hsm
  obtain ⟨vr, hvr⟩ : ∃ vr : Value, (Value.slice none 0 0) = vr := ⟨_, rfl⟩
  rw [hvr] at t
  replace hvr := Lib.hid hvr
  obtain ⟨ax, hax⟩ : ∃ ax : Option Addr, a1 = ax := ⟨_, rfl⟩
  rw [hax] at t
  replace hax := Lib.hid hax
  obtain ⟨al, cl, rfl, _, hal⟩ := t.ints.at_
  have hx := t.hx
  have hy := t.hy
  rw [hcM] at hy
  have hsc := t.low.size
  have cS := fun w hp => sweepHouse_anyS M.h M.l ax cap1 w hp
  obtain ⟨T, hT⟩ : ∃ T, sweepG M.h M.l = T := ⟨_, rfl⟩
  rw [hT] at cS
  have eX : nextL h l ⟨7, a, b, c, n⟩ = ⟨T.h, T.l, 0, M.n, M.done ++ T.d⟩ := by rw [eN, ← hT]; rfl
  have hlT : T.l.length = M.l.length := by rw [← hT]; exact (sweep_ext M.h M.l).len
  have hdT : T.d.length ≤ M.l.length := by rw [← hT]; exact ext_le (sweep_ext M.h M.l)
  clear eN
  replace hcM := Lib.hid hcM
  replace eX := Lib.hid eX
  replace cS := Lib.hid cS
  replace hT := Lib.hid hT
  replace hal := Lib.hid hal
  replace hlT := Lib.hid hlT
  clear hXq hYq hLq
  go_upto_region 63 with (first | go_skip | (refine ld_row 29 _ rfl rfl _ rfl _ _ _ _ hx Try.underlying29 rfl info30 ?_) | (go_at_call 67; refine (cS.out _ t.pays).mono ?_; rintro e w5 ⟨⟨a2, cap2, v2, rfl, hp2, ho2, hfa, hap⟩, hb5⟩) | (refine st_new 29 _ _ rfl _ 29 _ rfl rfl rfl (hc T.h (.slice a2 T.l.length cap2)) rfl info30 rfl (hc_one _ _ rfl) ?_))
  have hZ6 := hnew w5 (.cells (hc T.h (.slice a2 T.l.length cap2)) 29)
  have hb6 := hb5.alloc hb5.size (.cells (hc T.h (.slice a2 T.l.length cap2)) 29)
  have hs5 := hb5.size
  have hxl := hlt hx
  have hyl := hlt hy
  have hfb : 0 < T.l.length → ∀ b off s, a2 = some ⟨b, off, s⟩ → (w1.heap.size ≤ b ∧ b ≠ w5.heap.size ∧ b ≠ bx + 1 ∧ (Value.slice al (nats M.done).length cl).ownBlock ≠ some b) := fun hl b off s e => by
   have hbl : b < w5.heap.size := by
    obtain ⟨b', off', e', hbl, _⟩ := hp2.row hl
    rw [e] at e'; cases e'; exact hbl
   rcases hfa b off s e with ⟨off', s', e'⟩ | hge
   ·have hs := t.src (by rw [← hlT.out]; exact hl) b off' s' e'
    exact ⟨hs.1.resolve_left id, by omega, hs.2.2.2, hs.2.1⟩
   ·exact ⟨by omega, by omega, by omega, fun e => by have := ints_own_lt t.ints e; omega⟩
  have hp6 := hp2.alloc (.cells (hc T.h (.slice a2 T.l.length cap2)) 29)
  have ho6 := ho2.alloc (.cells (hc T.h (.slice a2 T.l.length cap2)) 29)
  have hv6 : OwnInts (w5.alloc (.cells (hc T.h (.slice a2 T.l.length cap2)) 29)) w1.heap.size (.slice al (nats M.done).length cl) (nats M.done) := t.ints.below hb6
  have hy6 := hkeep hb6 hy
  have hH6 := hkeep hb6 hHq
  have hR6 := hkeep hb6 hRq
  have hB6 := bstep hBq hBq.size hb6
  have hs6 : w5.heap.size < (w5.alloc (.cells (hc T.h (.slice a2 T.l.length cap2)) 29)).heap.size := by simp
  generalize w5.alloc (.cells (hc T.h (.slice a2 T.l.length cap2)) 29) = w6 at *
  generalize w5.heap.size = bz at *
  have hdM2 : (nats M.done).length ≤ 24 := by rw [nats_len]; exact hdM
  have hdT2 : (nats T.d).length ≤ 25 := by rw [nats_len]; omega
  have cY6 := cells_at hy6
  have htl := t.list
  have hto := fun k hk => t.ints.own (x := k) hk
  clear hb6 hb5 hx hy hp2 ho2 t
  replace hv6 := Lib.hid hv6
  replace ho6 := Lib.hid ho6
  replace hfb := Lib.hid hfb
  replace htl := Lib.hid htl
  replace hto := Lib.hid hto
  go_upto_region 64 with (first | go_skip | (at_builtin; refine wpList_append_ints rfl _ _ rfl w1.heap.size wq.heap.size (.slice al (nats M.done).length cl) v2 (nats M.done) (nats T.d) rfl rfl hv6.out ho6.out (by omega) (by omega) ?_; intro v3 w7 ho7 hgr7 hfr7; obtain ⟨a3, c3, rfl, _, _⟩ := ho7.at_; generalize (nats M.done ++ nats T.d).length = n3 at *; have hy7 := (hgr7.block (bx + 1) (hlt hy6) fun e => htl.out.2 e.symm).trans hy6; have fY := frozenAt hy7; have cY := cells_at hy7; have hset := hsetSame (i := 2) hy7 (.slice a3 n3 c3); replace hset := Lib.hid hset))
  have hZ7 := (hgr7.block bz (hlt hZ6) fun e => by have := ints_own_lt hv6.out e.symm; have := hto.out _ e.symm; exact absurd e.symm (by intro e'; obtain ⟨_, c', h'⟩ := owns_block' hv6.out.1 e'; rw [hZ6] at h'; injection Option.some.inj h' with _ ht _; exact absurd ht (by decide))).trans hZ6
  have hH7 := (hgr7.block _ (hlt hH6) fun e => by have := hto.out _ e.symm; omega).trans hH6
  have hR7 := (hgr7.block _ (hlt hR6) fun e => by have := hto.out _ e.symm; omega).trans hR6
  have hp7 := (only_grown hgr7).pays hp6 fun hl b off s e => (hfb.out hl b off s e).2.2.2
  have hB7 := hB6.grown hgr7 hB6.size fun k hk => by have := hto.out k hk; omega
  have hne3 : ∀ k, (Value.slice a3 n3 c3).ownBlock = some k → w1.heap.size ≤ k ∧ k ≠ bx + 1 ∧ ∀ (b off : Nat) (s : Option Nat), 0 < T.l.length → a2 = some ⟨b, off, s⟩ → k ≠ b := fun k hk => by
   rcases hfr7 k hk with h1 | h1
   ·exact ⟨hto.out k h1, fun e => htl.out.2 (e ▸ h1), fun b off s hl e e' => (hfb.out hl b off s e).2.2.2 (e' ▸ h1)⟩
   ·have hly := hlt hy6
    refine ⟨by omega, by omega, fun b off s hl e e' => ?_⟩
    obtain ⟨b', off', e2, hbl, _⟩ := hp6.row hl
    rw [e] at e2; cases e2; omega
  clear hgr7 hZ6 hH6 hR6 hp6 hB6 hy6 cY6 hv6 ho6 fY cY
  generalize hWs : World.setCell w7 _ _ = w8
  have hy8 : w8.heap[bx + 1]? = some (.cells (rc 0 M.n (.slice a3 n3 c3)) 44 (0, 0)) := by rw [← hWs]; exact hset.out
  have hZ8 : w8.heap[bz]? = some (.cells (hc T.h (.slice a2 T.l.length cap2)) 29 (0, 0)) := by rw [← hWs]; exact hsetOther hZ7 (by omega) _
  have hH8 : w8.heap[w.heap.size + 2]? = some (.cells (hc Hs.zero (.slice none 0 0)) 29 (0, 0)) := by rw [← hWs]; exact hsetOther hH7 (by omega) _
  have hR8 : w8.heap[w.heap.size + 3]? = some (.cells (rc 0 0 (.slice none 0 0)) 44 (0, 0)) := by rw [← hWs]; exact hsetOther hR7 (by omega) _
  have hp8 : PaysAt w8 a2 cap2 T.l := by rw [← hWs]; exact pay_set hp7 _ _ _ fun hl b off s e => (hfb.out hl b off s e).2.2.1
  have hB8 : Below w.heap.size w w8 := by rw [← hWs]; exact hB7.setCell (by show w.heap.size ≤ bx + 1; omega) _
  have ho8 : OwnInts w8 w.heap.size (.slice a3 n3 c3) (nats (M.done ++ T.d)) := by
   rw [nats_app, ← hWs]
   exact ⟨owns_only' (ho7.mono (by omega)).1 (only_set (bx + 1) 2 _ w7) fun x hx e => (hne3 x hx).2.1 e, ho7.2⟩
  replace ho8 := Lib.hid ho8
  replace hne3 := Lib.hid hne3
  clear hWs hset hZ7 hH7 hR7 hp7 hB7 hy7 ho7
  have hHd : w8.drew.heap[w.heap.size + 2]? = _ := hH8
  have hRd : w8.drew.heap[w.heap.size + 3]? = _ := hR8
  have hxd : w8.drew.heap[bz]? = some (.cells (hc T.h (.slice a2 T.l.length cap2)) 29 (0, 0)) := hZ8
  have hyd : w8.drew.heap[bx + 1]? = some (.cells (rc 0 M.n (.slice a3 n3 c3)) 44 (0, 0)) := hy8
  go_upto_region 64 with fail
  refine wpG_start (fun w' : World => w'.heap[bz]? = some (.cells (hc T.h (.slice a2 T.l.length cap2)) 29 (0, 0)) ∧ w'.heap[bx + 1]? = some (.cells (rc 0 M.n (.slice a3 n3 c3)) 44 (0, 0))) 3 (by kernel_rfl) ?_
  have hI0 : (fun w' : World => w'.heap[bz]? = some (.cells (hc T.h (.slice a2 T.l.length cap2)) 29 (0, 0)) ∧ w'.heap[bx + 1]? = some (.cells (rc 0 M.n (.slice a3 n3 c3)) 44 (0, 0))) w8.drew := ⟨hxd, hyd⟩
  refine wpG_put 347 (i := 0) (oi := _) (v := (.agg (hc T.h (.slice a2 T.l.length cap2)))) [0] rfl rfl (by kernel_rfl) (by kernel_rfl) (by kernel_rfl) (by kernel_rfl) (fun _ _ _ h => h) hI0 ?hy40 ?rs40
  case hy40 => exact yields_row 29 _ rfl rfl _ rfl _ _ _ _ (fun w' hb => hb.1) Try.underlying29 rfl info30
  (try simp only [Act.put, List.setIfInBounds_toArray, List.set_cons_succ, List.set_cons_zero])
  refine wpG_put 348 (i := 1) (oi := _) (v := (.agg (rc 0 M.n (.slice a3 n3 c3)))) [1] rfl rfl (by kernel_rfl) (by kernel_rfl) (by kernel_rfl) (by kernel_rfl) (fun _ _ _ h => h) hI0 ?hy41 ?rs41
  case hy41 => exact yields_row 44 _ rfl rfl _ rfl _ _ _ _ (fun w' hb => hb.2) Try.underlying44 rfl infoRp
  (try simp only [Act.put, List.setIfInBounds_toArray, List.set_cons_succ, List.set_cons_zero])
  clear hI0
  refine wpG_one (i := 2) (by kernel_rfl) rfl ?_
  go_wp2_with (first | go_skip | (refine st_row 29 _ _ rfl rfl _ rfl _ rfl _ _ hHd info30 rfl (hc_one _ _ rfl) ?_; intro wa hra hgra hsza))
  refine ⟨⟨(hgra.block _ (hlt hxd) (by simp; omega)).trans hxd, (hgra.block _ (hlt hyd) (by simp; omega)).trans hyd⟩, ?_⟩
  (try simp only [Act.put, List.setIfInBounds_toArray, List.set_cons_succ, List.set_cons_zero])
  refine wpG_drop 3 rfl (by kernel_rfl) ?_
  simp only [List.drop_succ_cons, List.drop_zero]
  go_wp2_with (first | go_skip | (refine st_row 44 _ _ rfl rfl _ rfl (rc 0 M.n (.slice a3 n3 c3)) rfl _ _ ((hgra.block _ (hlt hRd) (by simp)).trans hRd) infoRp rfl (rc_one _ _ _ rfl) ?_; intro wb hrb hgrb hszb))
  exact bodyPost_ret (results_hr rfl _ _ _ _ _ _ _ _ _ rfl rfl ((hgrb.block _ (hlt hra) (by simp)).trans hra) hrb) rfl (by rw [eX.out]; exact nexts_end (X := ⟨T.h, T.l, 0, M.n, M.done ++ T.d⟩) rfl hB8.drew hgra hgrb (hp8.below (Below.refl _ _).drew) (fun hl b off s e => by have hs := hfb.out hl b off s e; exact ⟨.inr (by omega), by omega, by omega, fun e' => (hne3.out b e').2.2 b off s hl e rfl⟩) (ho8.out.below (Below.refl _ _).drew) (fun k hk => by have h1 := (hne3.out k hk).1; omega))
end Go.Proofs.Ytggfdkkhlokmlab


