/- QueueRests: the walk. -/
import Derived.Test.YtggfdkkhlokmlaaWayMath
namespace Go.Proofs.Ytggfdkkhlokmlaa
open Go.RowKit
attribute [local go_sem high] neq_accs neq_sents neq_lims neq_pay neq_pay6
attribute [local go_sem] hc_pays hc_next hc_size pc_0 pc_1 pc_2 pc_3 pc_4 pc_5
theorem roomy_near {h : Hs} (r : Roomy h) (i : Int) (h0 : 0 ≤ i) (h1 : i < 4) : -1152921504606846976 ≤ h.has i ∧ h.has i ≤ 1152921504606846976 := by have := r.has i h0 h1; omega
set_option maxRecDepth 100000 in
set_option maxHeartbeats 4000000 in
theorem queueRests_no (h : Hs) (l : List Pay) (a : Option Addr) (cap : Nat) (w : World) (hp : PaysAt w a cap l) (hG : goodB h l = false ∨ roomyB h = false) :
    Calls Try.prog 11 #[.agg (hc h (.slice a l.length cap))] w fun e w' => e = .returned (.bool true) ∧ Below w.heap.size w w' := by
  have hg := hnew w (.cells (hc h (.slice a l.length cap)) 30)
  have hB0 := (Below.refl w.heap.size w).alloc (Nat.le_refl _) (.cells (hc h (.slice a l.length cap)) 30)
  have hp0 := hp.alloc (.cells (hc h (.slice a l.length cap)) 30)
  cases h1 : goodB h l
  · replace h1 := Lib.hid h1
    clear hG
    go_enter Try.func11, Try.ntmps11
    go_wp2_with (first | go_skip | (refine ld_row 30 _ rfl rfl _ rfl _ _ _ _ hg Try.underlying30 rfl info30 ?_) | (go_at_call 16; refine (good_val h1.out a cap _ hp0).mono ?_; rintro e w1 ⟨rfl, hb1⟩) | (go_at_call 53; refine (queuesK_any _).mono ?_; rintro e w2 ⟨rfl, hb2⟩))
    go_ret
    exact ⟨rfl, bstep (bstep hB0 hB0.size hb1) (by have := hB0.size; have := hb1.size; omega) hb2⟩
  · have h2 : roomyB h = false := by rcases hG with e | e; exact absurd (h1.symm.trans e) (by simp); exact e
    replace h1 := Lib.hid h1
    replace h2 := Lib.hid h2
    clear hG
    go_enter Try.func11, Try.ntmps11
    go_wp2_with (first | go_skip | (refine ld_row 30 _ rfl rfl _ rfl _ _ _ _ hg Try.underlying30 rfl info30 ?_) | (go_at_call 16; refine (good_val h1.out a cap _ hp0).mono ?_; rintro e w1 ⟨rfl, hb1⟩) | (refine ld_row 30 _ rfl rfl _ rfl _ _ _ _ (hkeep hb1 hg) Try.underlying30 rfl info30 ?_) | (go_at_call 31; refine (roomy_val h2.out _ _).mono ?_; rintro e w2 ⟨rfl, hb2⟩) | (go_at_call 53; refine (queuesK_any _).mono ?_; rintro e w3 ⟨rfl, hb3⟩))
    go_ret
    exact ⟨rfl, bstep (bstep (bstep hB0 hB0.size hb1) (by have := hB0.size; have := hb1.size; omega) hb2) (by have := hB0.size; have := hb1.size; have := hb2.size; omega) hb3⟩
set_option maxRecDepth 100000 in
set_option maxHeartbeats 4000000 in
theorem queueRests_yes (h : Hs) (l : List Pay) (a : Option Addr) (cap : Nat) (w : World) (hp : PaysAt w a cap l) (h1 : goodB h l = true) (h2 : roomyB h = true) :
    Calls Try.prog 11 #[.agg (hc h (.slice a l.length cap))] w fun e w' => e = .returned (.bool true) ∧ Below w.heap.size w w' := by
  have hgd := goodB_true h1
  have hlen := hgd.len
  have hnd := hgd.nodup
  have hk0 := Wk.start hgd
  have hrm := roomy_near (roomyB_true h2)
  obtain ⟨S, hS⟩ : ∃ S : St, (⟨h, l, []⟩ : St) = S := ⟨_, rfl⟩
  obtain ⟨T, hT⟩ : ∃ T, sweepG h l = T := ⟨_, rfl⟩
  have hTs : T = sweepS S := by rw [← hT, ← hS, sweepG, if_pos h1]
  have hSl : S.l = l := by rw [← hS]
  have hSh : S.h = h := by rw [← hS]
  have hSd : S.d = [] := by rw [← hS]
  rw [hS] at hk0
  rw [← hSl] at hnd hlen
  have hWay := way_sweep hnd hSd
  have hRest := sweep_rests S hnd
  have hTot := sweep_total S hnd
  have hwk : Wk S (sweepS S) := wk_visits hk0 hnd _
  rw [← hTs] at hWay hRest hTot hwk
  have hrT := hwk.room hlen
  have hTl : T.l.length = l.length := by rw [hwk.len, hSl]
  have hrm2 : ∀ i, 0 ≤ i → i < 4 → -1152921504606846976 ≤ T.h.has i ∧ T.h.has i ≤ 1152921504606846976 := fun i i0 i1 => by have h5 := hwk.near.has i i0 i1; have h6 := hwk.few; omega
  have hdT : T.d.length ≤ 24 := by have := hwk.few; omega
  rw [hSh] at hTot
  have hg := hnew w (.cells (hc h (.slice a l.length cap)) 30)
  have hB0 := (Below.refl w.heap.size w).alloc (Nat.le_refl _) (.cells (hc h (.slice a l.length cap)) 30)
  have hp0 := hp.alloc (.cells (hc h (.slice a l.length cap)) 30)
  clear hgd
  replace h1 := Lib.hid h1
  replace h2 := Lib.hid h2
  replace hrm := Lib.hid hrm
  replace hrm2 := Lib.hid hrm2
  replace hS := Lib.hid hS
  replace hT := Lib.hid hT
  replace hTs := Lib.hid hTs
  replace hSl := Lib.hid hSl
  replace hSh := Lib.hid hSh
  replace hSd := Lib.hid hSd
  replace hnd := Lib.hid hnd
  replace hk0 := Lib.hid hk0
  replace hWay := Lib.hid hWay
  replace hRest := Lib.hid hRest
  replace hTot := Lib.hid hTot
  replace hwk := Lib.hid hwk
  replace hTl := Lib.hid hTl
  replace hp := Lib.hid hp
  go_enter Try.func11, Try.ntmps11
  go_upto_region 3 with (first | go_skip | (refine ld_row 30 _ rfl rfl _ rfl _ _ _ _ hg Try.underlying30 rfl info30 ?_) | (go_at_call 16; refine (good_val h1.out a cap _ hp0).mono ?_; rintro e w1 ⟨rfl, hb1⟩) | (refine ld_row 30 _ rfl rfl _ rfl _ _ _ _ (hkeep hb1 hg) Try.underlying30 rfl info30 ?_) | (go_at_call 31; refine (roomy_val h2.out _ _).mono ?_; rintro e w2 ⟨rfl, hb2⟩))
  have hgH := hkeep hb2 (hkeep hb1 hg)
  have hpH := (hp0.below hb1).below hb2
  have hB := bstep (bstep hB0 hB0.size hb1) (by have := hB0.size; have := hb1.size; omega) hb2
  clear hg hB0 hp0 hb1 hb2
  go_wp2_with (first | go_skip | (refine ld_row 30 _ rfl rfl _ rfl _ _ _ _ hgH Try.underlying30 rfl info30 ?_))
  refine (sweep_any h l a cap _ hpH).mono ?_
  rw [hT.out]
  rintro e w3 ⟨⟨a2, cap2, v2, rfl, hp2, hO2⟩, hb3⟩
  obtain ⟨ad, cd, rfl, hi2, _⟩ := hO2.at_
  rw [nats_len]
  replace hgH := hold (hkeep hb3 hgH) (.cells (hc T.h (.slice a2 T.l.length cap2)) 30)
  replace hpH := (hpH.below hb3).alloc (.cells (hc T.h (.slice a2 T.l.length cap2)) 30)
  replace hB := (bstep hB hB.size hb3)
  replace hB := hB.alloc hB.size (.cells (hc T.h (.slice a2 T.l.length cap2)) 30)
  replace hp2 := hp2.alloc (.cells (hc T.h (.slice a2 T.l.length cap2)) 30)
  replace hi2 := hi2.alloc (.cells (hc T.h (.slice a2 T.l.length cap2)) 30)
  have hgX := hnew w3 (.cells (hc T.h (.slice a2 T.l.length cap2)) 30)
  clear hO2 hb3
  replace hgH := Lib.hid hgH
  replace hgX := Lib.hid hgX
  go_upto_region 4 with (first | go_skip | (refine st_new 30 _ _ rfl _ 30 _ rfl rfl rfl (hc T.h (.slice a2 T.l.length cap2)) rfl info30 rfl (hc_one _ _ rfl) ?_))
  replace hgH := hgH.out
  replace hgX := hgX.out
  generalize hW : w3.alloc (.cells (hc T.h (.slice a2 T.l.length cap2)) 30) = W at *
  generalize hC0 : w3.heap.size = cx at *
  clear hW hC0
  go_wp2_with fail
  go_loopg [28] 4 (fun g s28 wr => ∃ m : Nat, m ≤ 4 ∧ g = 4 - m ∧ s28 = .int .i64 m ∧ Below W.heap.size W wr)
  case atStart => exact ⟨0, by omega, rfl, rfl, Below.refl _ _⟩
  case round =>
    obtain ⟨m, hm, rfl, rfl, hbw⟩ := hrel
    by_cases h4 : m < 4
    · have hX := hkeep hbw hgX
      have hpx := hp2.below hbw
      replace hpx := Lib.hid hpx
      have h4d : decide ((m : Int) < 4) = true := decide_eq_true (by omega)
      go_upto_region 8 with (first | go_skip | (refine ld_row 30 _ rfl rfl _ rfl _ _ _ _ hX Try.underlying30 rfl info30 ?_) | (go_at_call 46; refine (of_any T.h T.l a2 cap2 (m : Int) _ hpx.out).mono ?_; rintro e w1 ⟨⟨v, xs, rfl, hq, hxo⟩, hb1⟩))
      have hxs := hq.eq (hwk.out.nodup hnd.out)
      obtain ⟨al, cl, rfl, hil, _⟩ := hxo.at_
      rw [nats_len]
      have hX1 := hkeep hb1 hX
      have hpx1 := hpx.out.below hb1
      have hbw1 := hbw.trans (hb1.mono hbw.size)
      clear hX hpx hq hxo hb1 hbw
      cases xs with
      | nil =>
        replace hil := Lib.hid hil
        replace hxs := Lib.hid hxs
        go_wp2_with fail
        go_roundg (4 - (m + 1))
        case measure => omega
        case rel => exact ⟨m + 1, by omega, rfl, by go_num, hbw1⟩
      | cons i ys =>
        obtain ⟨hiT, hst, hfr⟩ := (ofL_mem (l := T.l) (bank := (m : Int)) (i := i)).1 (by rw [← hxs]; simp)
        have hno := hRest.out m h4 i ys hxs.symm
        have hpi := payAt_get hiT
        obtain ⟨p, ep⟩ : ∃ p, payAt T.l i = p := ⟨_, rfl⟩
        rw [ep] at hpi
        have hmay : mayB T.h p.frm p.to p.amt = false := by rw [← hno]; simp only [St.may, ep]
        obtain ⟨bl, ol, rfl, _, hcl⟩ := hil.row (by simp [nats])
        have hli : w1.cell? ⟨bl, ol, none⟩ = some (.int .i64 i) := by have := hcl 0 i (by simp [nats]); simpa using this
        obtain ⟨bp, op, rfl, hbl, _⟩ := hpx1.row (by omega)
        obtain ⟨x0, x1, x2, x3, x4, x5⟩ := hpx1.six hpi
        have c40 : w1.cell? ⟨cx, 40, none⟩ = some (.slice (some ⟨bp, op, none⟩) T.l.length cap2) := (cells_at hX1 40).trans (hc_pays _ _)
        have hml : (T.l.length : Int) ≤ 9223372036854775807 := by have h1 := hpx1.le; have h2 := hpx1.capm; unfold maxLen at h2; omega
        have hii : (i : Int) < (T.l.length : Int) := by omega
        have hy0 : (0 : Int) < ((ys.length : Nat) : Int) + 1 := by omega
        have n40 := World.new_ne w1 _ c40
        have nli := World.new_ne w1 _ hli
        have nx0 := World.new_ne w1 _ x0
        have nx1 := World.new_ne w1 _ x1
        have nx2 := World.new_ne w1 _ x2
        have nx3 := World.new_ne w1 _ x3
        have nx4 := World.new_ne w1 _ x4
        have nx5 := World.new_ne w1 _ x5
        clear hcl hno
        replace hxs := Lib.hid hxs
        replace ep := Lib.hid ep
        replace hpi := Lib.hid hpi
        replace hst := Lib.hid hst
        replace hfr := Lib.hid hfr
        replace hmay := Lib.hid hmay
        replace hX1 := Lib.hid hX1
        replace hpx1 := Lib.hid hpx1
        replace hil := Lib.hid hil
        go_upto_region 9 with fail
        go_cut [7] (fun s7 wx => ∃ gx : Nat, s7 = .pointer (some ⟨gx, 0, none⟩) ∧ wx.heap[gx]? = some (.cells (pc p) 36 (0, 0)) ∧ Below w1.heap.size w1 wx)
        case first =>
          go_region_held3 (fun w' => w'.cell? ⟨cx, 40, none⟩ = some (.slice (some ⟨bp, op, none⟩) T.l.length cap2) ∧ w'.cell? ⟨bl, ol, none⟩ = some (.int .i64 i) ∧ w'.cell? ⟨bp, op + i * 6, none⟩ = some (.int .i64 p.frm) ∧ w'.cell? ⟨bp, op + i * 6 + 1, none⟩ = some (.int .i64 p.to) ∧ w'.cell? ⟨bp, op + i * 6 + 2, none⟩ = some (.int .i64 p.amt) ∧ w'.cell? ⟨bp, op + i * 6 + 3, none⟩ = some (.int .i64 p.cls) ∧ w'.cell? ⟨bp, op + i * 6 + 4, none⟩ = some (.int .i64 p.st) ∧ w'.cell? ⟨bp, op + i * 6 + 5, none⟩ = some (.int .i64 p.seq)) (go_keep) (fail)
          all_goals
            go_wp2_with fail
            go_meet
            case rel => exact ⟨_, rfl, hnew w1 (.cells (pc p) 36), ((Below.refl _ _).alloc (Nat.le_refl _) _).drew⟩
        case rest =>
          obtain ⟨gx, rfl, hgx, hbw2⟩ := hcut
          have hA2 := hkeep hbw2 hX1.out
          have e0 := cells_at hgx 0
          have e1 := cells_at hgx 1
          have e2 := cells_at hgx 2
          rw [pc_0] at e0
          rw [pc_1] at e1
          rw [pc_2] at e2
          have hbw3 := hbw1.trans (hbw2.mono hbw1.size)
          clear x0 x1 x2 x3 x4 x5 c40 n40 nli nx0 nx1 nx2 nx3 nx4 nx5 hgx hbw2
          go_wp2_with (first | go_skip | (refine ld_row 30 _ rfl rfl _ rfl _ _ _ _ hA2 Try.underlying30 rfl info30 ?_) | (go_at_call 27; refine (may_any T.h _ p.frm p.to p.amt _ hrT).mono ?_; rintro e w4 ⟨rfl, hb4⟩; rw [hmay.out]))
          go_roundg (4 - (m + 1))
          case measure => omega
          case rel => exact ⟨m + 1, by omega, rfl, by go_num, hbw3.trans (hb4.mono hbw3.size)⟩
    · obtain rfl : m = 4 := by omega
      have hgH0 := hkeep hbw hgH
      have hp30 := hp2.below hbw
      have hi30 := hi2.below hbw
      have hpH0 := hpH.below hbw
      have hB30 := bstep hB hB.size hbw
      have hch : w.heap.size < wr.heap.size := hlt hgH0
      have hcxy : cx < wr.heap.size := hlt (hkeep hbw hgX)
      have hxb := hp30.blk (Nat.le_refl wr.heap.size)
      have hdb := hi30.blk (Nat.le_refl wr.heap.size)
      have hhb := hpH0.blk (Nat.le_refl wr.heap.size)
      have hgH3 := hold hgH0 (.cells (hc h (.slice a l.length cap)) 30)
      have hgX3 := hold (hkeep hbw hgX) (.cells (hc h (.slice a l.length cap)) 30)
      have hgY3 := hnew wr (.cells (hc h (.slice a l.length cap)) 30)
      have hp3 := hp30.alloc (.cells (hc h (.slice a l.length cap)) 30)
      have hi3 := hi30.alloc (.cells (hc h (.slice a l.length cap)) 30)
      have hpH3 := hpH0.alloc (.cells (hc h (.slice a l.length cap)) 30)
      have hB3 := hB30.alloc hB30.size (.cells (hc h (.slice a l.length cap)) 30)
      clear hp30 hi30 hpH0 hB30 hgH hgX hpH hp2 hi2 hB hbw
      replace hgH3 := Lib.hid hgH3
      replace hgX3 := Lib.hid hgX3
      replace hgY3 := Lib.hid hgY3
      replace hxb := Lib.hid hxb
      replace hdb := Lib.hid hdb
      replace hhb := Lib.hid hhb
      go_upto_region 14 with (first | go_skip | (refine ld_row 30 _ rfl rfl _ rfl _ _ _ _ hgH0 Try.underlying30 rfl info30 ?_) | (refine st_new 30 _ _ rfl _ 30 _ rfl rfl rfl (hc h (.slice a l.length cap)) rfl info30 rfl (hc_one _ _ rfl) ?_))
      clear hgH0
      replace hgH3 := hgH3.out
      replace hgX3 := hgX3.out
      replace hgY3 := hgY3.out
      generalize hW : wr.alloc (.cells (hc h (.slice a l.length cap)) 30) = W3 at *
      generalize hC1 : wr.heap.size = cy at *
      clear hW hC1
      go_wp2_with fail
      go_loopg [56] T.d.length (fun g s56 wr => ∃ (k : Nat) (Y : St) (ay : Option Addr) (capy : Nat), k ≤ T.d.length ∧ g = T.d.length - k ∧ s56 = .int .i64 k ∧ Y = settleAll (T.d.take k) S ∧ wr.heap[w.heap.size]? = some (.cells (hc h (.slice a l.length cap)) 30 (0, 0)) ∧ wr.heap[cx]? = some (.cells (hc T.h (.slice a2 T.l.length cap2)) 30 (0, 0)) ∧ wr.heap[cy]? = some (.cells (hc Y.h (.slice ay Y.l.length capy)) 30 (0, 0)) ∧ PaysAt wr a2 cap2 T.l ∧ IntsAt wr ad cd (nats T.d) ∧ PaysAt wr ay capy Y.l ∧ (0 < Y.l.length → ∀ b off s, ay = some ⟨b, off, s⟩ → b ≠ cy) ∧ Below w.heap.size w wr)
      case atStart => exact ⟨0, S, a, cap, by omega, rfl, rfl, rfl, hgH3, hgX3, by rw [hSh.out, hSl.out]; exact hgY3, hp3, hi3, by rw [hSl.out]; exact hpH3, by rw [hSl.out]; exact hhb.out, hB3⟩
      case round =>
        clear hgH3 hgX3 hgY3 hp3 hi3 hpH3 hB3
        obtain ⟨k, Y, ay, capy, hk, rfl, rfl, hY, hgH, hgX, hgY, hpX, hiD, hpY, hyb, hB⟩ := hrel
        have hwkY : Wk S Y := by rw [hY]; exact hWay.out.wk hk0.out hSd.out k
        have hYl : Y.l.length = l.length := by rw [hwkY.len, hSl.out]
        have hrY := hwkY.room hlen
        by_cases h6 : k < T.d.length
        · obtain ⟨n, hn⟩ : ∃ n, T.d[k]? = some n := ⟨T.d[k], List.getElem?_eq_getElem h6⟩
          obtain ⟨b, ys, hq, hmay⟩ := hWay.out.step k n hn
          rw [← hY] at hq hmay
          obtain ⟨hnY, hst, hfr⟩ := (ofL_mem (l := Y.l) (bank := b) (i := n)).1 (by rw [hq]; simp)
          have hnx : (nats T.d)[k]? = some (n : Int) := by simp [nats, hn]
          have hnxt := settleAll_snoc (S := S) hn
          rw [← hY] at hnxt
          have hpi := payAt_get hnY
          obtain ⟨p, ep⟩ : ∃ p, payAt Y.l n = p := ⟨_, rfl⟩
          rw [ep] at hpi hfr
          rw [← hfr] at hq
          have hmb : mayB Y.h p.frm p.to p.amt = true := by rw [← hmay]; simp only [St.may, ep]
          obtain ⟨bd, od, rfl, _, hcd⟩ := hiD.row (by rw [nats_len]; omega)
          have hcn := hcd k n hnx
          obtain ⟨by_, oy, rfl, hbyl, hcy⟩ := hpY.row (by omega)
          have hcp : ∀ j v, (pc p)[j]? = some v → wr.cell? ⟨by_, oy + n * 6 + j, none⟩ = some v := fun j v hv => by rw [Nat.add_assoc]; exact hcy n p hpi j v hv
          have hcyr := cells_at hgY
          have hml : (Y.l.length : Int) ≤ 9223372036854775807 := by have h1 := hpY.le; have h2 := hpY.capm; unfold maxLen at h2; omega
          have hnl : (n : Int) < (Y.l.length : Int) := by omega
          have hnl2 : decide (Y.l.length ≤ n) = false := decide_eq_false (by omega)
          have h6d : decide ((k : Int) < (T.d.length : Int)) = true := decide_eq_true (by omega)
          have hstp : p.st = 1 := by rw [← ep]; exact hst
          clear hcd hcy
          replace hY := Lib.hid hY
          replace hn := Lib.hid hn
          replace hq := Lib.hid hq
          replace hmay := Lib.hid hmay
          replace hst := Lib.hid hst
          replace hstp := Lib.hid hstp
          replace hfr := Lib.hid hfr
          replace hnx := Lib.hid hnx
          replace hnxt := Lib.hid hnxt
          replace hpi := Lib.hid hpi
          replace ep := Lib.hid ep
          replace hmb := Lib.hid hmb
          replace hcp := Lib.hid hcp
          replace hwkY := Lib.hid hwkY
          replace hYl := Lib.hid hYl
          replace hyb := Lib.hid hyb
          replace hgH := Lib.hid hgH
          replace hgX := Lib.hid hgX
          replace hgY := Lib.hid hgY
          go_upto_region 20 with (first | go_skip | (refine ld_cells 36 _ rfl rfl by_ (oy + n * 6) rfl (pc p) _ Try.underlying36 rfl info36 hcp.out ?_) | (refine st_new 36 _ _ rfl _ 36 _ rfl rfl rfl _ rfl info36 rfl (pc_one p) ?_))
          have hbA := (Below.refl wr.heap.size wr).alloc (Nat.le_refl _) (.cells (pc p) 36)
          have hqn := hnew wr (.cells (pc p) 36)
          have hgY1 := hold hgY.out (.cells (pc p) 36)
          have hpY1 := hpY.alloc (.cells (pc p) 36)
          have e0 := cells_at hqn 0
          rw [pc_0] at e0
          clear hcyr hcn
          replace hqn := Lib.hid hqn
          go_upto_region 21 with (first | go_skip | (refine ld_row 30 _ rfl rfl _ rfl _ _ _ _ hgY1 Try.underlying30 rfl info30 ?_) | (go_at_call 46; refine (of_any Y.h Y.l _ capy p.frm _ hpY1).mono ?_; rintro e w1 ⟨⟨v, xs, rfl, hq1, hxo⟩, hb1⟩))
          obtain rfl : xs = n :: ys := (hq1.eq (hwkY.out.nodup hnd.out)).trans hq.out
          obtain ⟨al, cl, rfl, hil, _⟩ := hxo.at_
          rw [nats_len]
          obtain ⟨bl, ol, rfl, _, hcl⟩ := hil.row (by simp [nats])
          have hli : w1.cell? ⟨bl, ol, none⟩ = some (.int .i64 n) := by have := hcl 0 n (by simp [nats]); simpa using this
          have hqn1 := hkeep hb1 hqn.out
          have e1 := cells_at hqn1 0
          have e2 := cells_at hqn1 1
          have e3 := cells_at hqn1 2
          rw [pc_0] at e1
          rw [pc_1] at e2
          rw [pc_2] at e3
          have hgY2 := hkeep hb1 hgY1
          have hpY2 := hpY1.below hb1
          replace hbA := hbA.trans (hb1.mono hbA.size)
          have hy0 : (0 : Int) < ((ys.length : Nat) : Int) + 1 := by omega
          have hyz : (((ys.length : Nat) : Int) + 1 == 0) = false := by rw [beq_eq_false_iff_ne]; omega
          clear hcl e0 hgY1 hpY1 hq1 hxo hb1
          replace hqn1 := Lib.hid hqn1
          replace hil := Lib.hid hil
          go_upto_region 23 with (first | go_skip | (refine ld_row 30 _ rfl rfl _ rfl _ _ _ _ hgY2 Try.underlying30 rfl info30 ?_) | (go_at_call 27; refine (may_any Y.h _ p.frm p.to p.amt _ hrY).mono ?_; rintro e w2 ⟨rfl, hb2⟩; rw [hmb.out]))
          have hgY4 := hkeep hb2 hgY2
          have hpY4 := hpY2.below hb2
          replace hbA := hbA.trans (hb2.mono hbA.size)
          clear e1 e2 e3 hli hgY2 hpY2 hb2
          go_wp2_with (first | go_skip | (refine ld_row 30 _ rfl rfl _ rfl _ _ _ _ hgY4 Try.underlying30 rfl info30 ?_) | (go_at_call 48; refine (settle_yes Y.h Y.l _ capy n _ hpY4 hrY hnY hst.out).mono ?_; rintro e w5 ⟨⟨ay', capy', rfl, hpY5, hfy⟩, hb5⟩) | (refine st_row 30 _ _ rfl rfl _ rfl _ rfl _ _ (hkeep hb5 hgY4) info30 rfl (hc_one _ _ rfl) ?_; intro w6 hr6 hgr6 hsz6))
          replace hbA := hbA.trans (hb5.mono hbA.size)
          have hly := hlt hgY4
          go_roundg (T.d.length - (k + 1))
          case measure => omega
          case rel =>
            refine ⟨k + 1, Y.settle n, ay', capy', by omega, rfl, by go_num, hnxt.out.symm, ?_, ?_, hr6, ?_, ?_, ?_, ?_, ?_⟩
            · exact (hgr6.block _ (hlt (hkeep hbA hgH.out)) (by simp; omega)).trans (hkeep hbA hgH.out)
            · exact (hgr6.block _ (hlt (hkeep hbA hgX.out)) (by simp; omega)).trans (hkeep hbA hgX.out)
            · exact (hpX.below hbA).past hgr6 hxb.out
            · exact (hiD.below hbA).past hgr6 hdb.out
            · exact hpY5.past hgr6 (fun _ b off s e => by have := hfy b off s e; omega)
            · exact fun _ b off s e => by have := hfy b off s e; omega
            · have h7 : Below w.heap.size w w5 := hB.trans (hbA.mono hB.size)
              exact h7.grown hgr6 h7.size fun x hx => by cases hx; omega
        · have hkd : k = T.d.length := by omega
          have hYT : Y = T := by rw [hY, hkd, List.take_length]; exact hWay.out.fin.symm
          rw [hYT] at hgY hpY
          have h6d : decide ((k : Int) < (T.d.length : Int)) = false := decide_eq_false (by omega)
          have cX : ∀ h' s w, h' = T.h ∨ h' = h → Calls Try.prog 26 #[.agg (hc h' s)] w fun e w' => e = .returned (.int .i64 h.total) ∧ Below w.heap.size w w' := fun h' s w e => by
            rcases e with rfl | rfl
            · rw [← hTot.out]; exact sum_any T.h s w hrm2.out
            · exact sum_any h' s w hrm.out
          have hcX := calm_cells hgX
          have hcY := calm_cells hgY
          clear hY hkd hYT hyb hwkY hYl hrY
          obtain ⟨tt, htt⟩ : ∃ tt, h.total = tt := ⟨_, rfl⟩
          rw [htt] at cX
          replace cX := Lib.hid cX
          replace htt := Lib.hid htt
          obtain ⟨wo, rfl⟩ : ∃ wo : World, wo = wr := ⟨_, rfl⟩
          go_upto_region 25 with fail
          refine calm_region (Below wo.heap.size wo) (by kernel_rfl) (by kernel_rfl) (calm_start wo) ?_
          repeat (first | go_big_quiet_skip | (go_big_quiet_want; first | (refine calm_mid 25 _ rfl _ _ rfl _ _ (accs T.h) _ _ (calm_heap hgY) Try.underlying25 rfl info25 (hc_accs T.h _) ?_; (try simp only [Act.put]); (try simp only [List.setIfInBounds_toArray]); (try simp only [List.set_cons_succ]); (try simp only [List.set_cons_zero]); go_big_quiet_on) | (refine calm_mid 25 _ rfl _ _ rfl _ _ (accs T.h) _ _ (calm_heap hgX) Try.underlying25 rfl info25 (hc_accs T.h _) ?_; (try simp only [Act.put]); (try simp only [List.setIfInBounds_toArray]); (try simp only [List.set_cons_succ]); (try simp only [List.set_cons_zero]); go_big_quiet_on) | (refine calm_mid 27 _ rfl _ _ rfl _ _ (sents T.h) _ _ (calm_heap hgY) Try.underlying27 rfl info27 (hc_sents T.h _) ?_; (try simp only [Act.put]); (try simp only [List.setIfInBounds_toArray]); (try simp only [List.set_cons_succ]); (try simp only [List.set_cons_zero]); go_big_quiet_on) | (refine calm_mid 27 _ rfl _ _ rfl _ _ (sents T.h) _ _ (calm_heap hgX) Try.underlying27 rfl info27 (hc_sents T.h _) ?_; (try simp only [Act.put]); (try simp only [List.setIfInBounds_toArray]); (try simp only [List.set_cons_succ]); (try simp only [List.set_cons_zero]); go_big_quiet_on) | (refine calm_row 30 _ rfl _ rfl _ _ _ _ (calm_heap hgX) Try.underlying30 rfl info30 ?_; (try simp only [Act.put]); (try simp only [List.setIfInBounds_toArray]); (try simp only [List.set_cons_succ]); (try simp only [List.set_cons_zero]); go_big_quiet_on) | (refine calm_row 30 _ rfl _ rfl _ _ _ _ (calm_heap hgH) Try.underlying30 rfl info30 ?_; (try simp only [Act.put]); (try simp only [List.setIfInBounds_toArray]); (try simp only [List.set_cons_succ]); (try simp only [List.set_cons_zero]); go_big_quiet_on) | (go_big_quiet_op; first | go_big_quiet_on | go_big_quiet_call (first | (go_at_call 26; exact calm_call (calm_below _) (cX.out _ _ _ (by first | exact .inl rfl | exact .inr rfl)))))))
          refine wpQuiet_nil ?_
          intro w8 hI
          clear hcX hcY
          have hX8 := hkeep hI hgX
          have hY8 := hkeep hI hgY
          have hpX8 := hpX.below hI
          have hpY8 := hpY.below hI
          have hB8 := bstep hB hB.size hI
          have hcX8 := cells_at hX8
          clear hgX hgY hpX hpY hB hI hgH hiD
          go_wp2_with fail
          clear hcX8
          have h24 : T.l.length ≤ 24 := by rw [hTl.out, ← hSl.out]; exact hlen
          go_loopg [134] T.l.length (fun g s134 wr => ∃ i : Nat, i ≤ T.l.length ∧ g = T.l.length - i ∧ s134 = .int .i64 i ∧ Below w8.heap.size w8 wr)
          case atStart => exact ⟨0, by omega, rfl, rfl, Below.refl _ _⟩
          case round =>
            obtain ⟨i, hi9, rfl, rfl, hbw⟩ := hrel
            by_cases h7 : i < T.l.length
            · obtain ⟨p, hpk⟩ : ∃ p, T.l[i]? = some p := ⟨T.l[i], List.getElem?_eq_getElem h7⟩
              obtain ⟨b1, o1, rfl, _, _⟩ := hpX8.row (by omega)
              obtain ⟨b2, o2, rfl, _, _⟩ := hpY8.row (by omega)
              obtain ⟨x0, x1, x2, x3, x4, x5⟩ := (hpX8.below hbw).six hpk
              obtain ⟨y0, y1, y2, y3, y4, y5⟩ := (hpY8.below hbw).six hpk
              have hcA := cells_at (hkeep hbw hX8)
              have hcB := cells_at (hkeep hbw hY8)
              have hbn : ∀ q, Below w8.heap.size w8 (wr.drewN q) := fun q => below_drewN hbw q
              have h7d : decide ((i : Int) < (T.l.length : Int)) = true := decide_eq_true (by omega)
              have hil : (i : Int) < (T.l.length : Int) := by omega
              replace hbn := Lib.hid hbn
              clear hpk
              replace hpX8 := Lib.hid hpX8
              replace hpY8 := Lib.hid hpY8
              replace hX8 := Lib.hid hX8
              replace hY8 := Lib.hid hY8
              go_wp2_with fail
              go_quiet (fail)
              go_wp2_with fail
              go_roundg (T.l.length - (i + 1))
              case measure => omega
              case rel => exact ⟨i + 1, by omega, rfl, by go_num, hbn.out _⟩
            · have h7d : decide ((i : Int) < (T.l.length : Int)) = false := decide_eq_false (by omega)
              have hB9 := bstep hB8 hB8.size hbw
              go_wp2_with (go_at_call 53; refine (queuesK_any _).mono ?_; rintro e w9 ⟨rfl, hb9⟩)
              go_ret
              exact ⟨rfl, bstep hB9 hB9.size hb9⟩
theorem queueRests_any (h : Hs) (l : List Pay) (a : Option Addr) (cap : Nat) (w : World) (hp : PaysAt w a cap l) :
    Calls Try.prog 11 #[.agg (hc h (.slice a l.length cap))] w fun e w' => e = .returned (.bool true) ∧ Below w.heap.size w w' := by
  cases h1 : goodB h l
  · exact queueRests_no h l a cap w hp (.inl h1)
  · cases h2 : roomyB h
    · exact queueRests_no h l a cap w hp (.inr h2)
    · exact queueRests_yes h l a cap w hp h1 h2
end Go.Proofs.Ytggfdkkhlokmlaa
