/- KnotUnties: the walk. -/
import Derived.Test.YtggfdkkhlokmlaaKnots
import Derived.Test.YtggfdkkhlokmlaaQueueRests
namespace Go.Proofs.Ytggfdkkhlokmlaa
open Go.RowKit
attribute [local go_sem] hc_has hc_cr hc_sent hc_lim hc_pays hc_next hc_size nc_size
attribute [local go_sem low] hc_hasN hc_crN hc_sentN hc_limN
/-- How many of the first k banks. -/
def ns (n : Nat → Nat) : Nat → Nat
  | 0 => 0
  | k + 1 => ns n k + n k
theorem ns_le {n : Nat → Nat} {N : Nat} (h : ∀ b, b < 4 → n b ≤ N) : ∀ k, k ≤ 4 → ns n k ≤ k * N
  | 0, _ => by simp [ns]
  | k + 1, hk => by
    have := ns_le h k (by omega); have := h k (by omega)
    simp only [ns]; rw [Nat.add_mul]; omega
theorem untie_h {h : Hs} {l : List Pay} (g : GoodP h l) : (untieS h l).h = after l (mostOf h l) h ∧ (untieS h l).d = firsts l (mostOf h l) 4 := by
  rw [untieS, if_pos (goodB_yes g)]
  obtain ⟨h1, h2⟩ := settleAll_h (firsts l (mostOf h l) 4) ⟨h, l, []⟩
  exact ⟨h1, by rw [h2]; rfl⟩
theorem untie_len {h : Hs} {l : List Pay} (g : GoodP h l) : (untieS h l).d.length = ns (mostC h l) 4 := by
  rw [(untie_h g).2]
  have hm := (mostOf_is h g.allPay).tog.le
  have e : ∀ b : Nat, b < 4 → ((ofL l (b : Int)).take (mostOf h l (b : Int))).length = mostC h l b := fun b hb => by
    have := hm (b : Int) (by omega) (by omega)
    rw [List.length_take, mostC, if_pos (goodB_yes g)]
    omega
  simp only [firsts, List.nil_append, List.length_append, e 0 (by omega), e 1 (by omega), e 2 (by omega), e 3 (by omega), ns]
  omega
theorem untie_total {h : Hs} {l : List Pay} (g : GoodP h l) : (untieS h l).h.total = h.total := by rw [(untie_h g).1]; exact moves_total l _ h
theorem untie_left {h : Hs} {l : List Pay} (g : GoodP h l) {b : Nat} (hb : b < 4) (hn : 0 < mostC h l b) : 0 ≤ (untieS h l).h.has (b : Int) + (untieS h l).h.cr (b : Int) := by
  rw [(untie_h g).1]
  rcases (mostOf_is h g.allPay).tog.fine (b : Int) (by omega) (by omega) with h0 | h0
  · simp only [mostC, goodB_yes g, if_true] at hn; omega
  · exact h0.left
theorem untie_keeps {h : Hs} {l : List Pay} (g : GoodP h l) {b : Nat} (hb : b < 4) (hn : mostC h l b = 0) : h.has (b : Int) ≤ (untieS h l).h.has (b : Int) := by
  rw [(untie_h g).1]
  have h0 : mostOf h l (b : Int) = 0 := by simpa only [mostC, goodB_yes g, if_true] using hn
  rw [after_has g.allPay _ _ ⟨by omega, by omega⟩, h0]
  have e : outs l (b : Int) ((ofL l (b : Int)).take 0) = 0 := by simp [outs]
  have i0 := ins_pos (b : Int) (snd_take g.allPay 0 (mostOf h l 0))
  have i1 := ins_pos (b : Int) (snd_take g.allPay 1 (mostOf h l 1))
  have i2 := ins_pos (b : Int) (snd_take g.allPay 2 (mostOf h l 2))
  have i3 := ins_pos (b : Int) (snd_take g.allPay 3 (mostOf h l 3))
  omega
theorem untie_net {h : Hs} {l : List Pay} (g : GoodP h l) {b t : Nat} (hb : b < 4) (ht : t < 4) (hl : 0 ≤ (untieS h l).h.lim (b : Int) (t : Int)) (hn : (untieS h l).h.lim (b : Int) (t : Int) < (untieS h l).h.sent (b : Int) (t : Int) - (untieS h l).h.sent (t : Int) (b : Int)) :
    (untieS h l).h.sent (b : Int) (t : Int) - (untieS h l).h.sent (t : Int) (b : Int) ≤ h.sent (b : Int) (t : Int) - h.sent (t : Int) (b : Int) := by
  rw [(untie_h g).1] at *
  rcases (mostOf_is h g.allPay).tog.fine (b : Int) (by omega) (by omega) with h0 | h0
  · rw [after_sent g.allPay _ _ _ ⟨by omega, by omega⟩, after_sent g.allPay _ _ _ ⟨by omega, by omega⟩, h0]
    have e : tot l (b : Int) (t : Int) ((ofL l (b : Int)).take 0) = 0 := by simp [tot]
    have := tot_pos (t : Int) (b : Int) (snd_take g.allPay (t : Int) (mostOf h l (t : Int)))
    omega
  · have := h0.lim (t : Int) (by omega) (by omega) hl
    omega
set_option maxRecDepth 100000 in
set_option maxHeartbeats 4000000 in
theorem knotUnties_no (h : Hs) (l : List Pay) (a : Option Addr) (cap : Nat) (w : World) (hp : PaysAt w a cap l) (hG : goodB h l = false ∨ roomyB h = false) :
    Calls Try.prog 12 #[.agg (hc h (.slice a l.length cap))] w fun e w' => e = .returned (.bool true) ∧ Below w.heap.size w w' := by
  have hg := hnew w (.cells (hc h (.slice a l.length cap)) 30)
  have hB0 := (Below.refl w.heap.size w).alloc (Nat.le_refl _) (.cells (hc h (.slice a l.length cap)) 30)
  have hp0 := hp.alloc (.cells (hc h (.slice a l.length cap)) 30)
  cases h1 : goodB h l
  · replace h1 := Lib.hid h1
    clear hG
    go_enter Try.func12, Try.ntmps12
    go_wp2_with (first | go_skip | (refine ld_row 30 _ rfl rfl _ rfl _ _ _ _ hg Try.underlying30 rfl info30 ?_) | (go_at_call 16; refine (good_val h1.out a cap _ hp0).mono ?_; rintro e w1 ⟨rfl, hb1⟩) | (go_at_call 54; refine (knotsK_any _).mono ?_; rintro e w2 ⟨rfl, hb2⟩))
    go_ret
    exact ⟨rfl, bstep (bstep hB0 hB0.size hb1) (by have := hB0.size; have := hb1.size; omega) hb2⟩
  · have h2 : roomyB h = false := by rcases hG with e | e; exact absurd (h1.symm.trans e) (by simp); exact e
    replace h1 := Lib.hid h1
    replace h2 := Lib.hid h2
    clear hG
    go_enter Try.func12, Try.ntmps12
    go_wp2_with (first | go_skip | (refine ld_row 30 _ rfl rfl _ rfl _ _ _ _ hg Try.underlying30 rfl info30 ?_) | (go_at_call 16; refine (good_val h1.out a cap _ hp0).mono ?_; rintro e w1 ⟨rfl, hb1⟩) | (refine ld_row 30 _ rfl rfl _ rfl _ _ _ _ (hkeep hb1 hg) Try.underlying30 rfl info30 ?_) | (go_at_call 31; refine (roomy_val h2.out _ _).mono ?_; rintro e w2 ⟨rfl, hb2⟩) | (go_at_call 54; refine (knotsK_any _).mono ?_; rintro e w3 ⟨rfl, hb3⟩))
    go_ret
    exact ⟨rfl, bstep (bstep (bstep hB0 hB0.size hb1) (by have := hB0.size; have := hb1.size; omega) hb2) (by have := hB0.size; have := hb1.size; have := hb2.size; omega) hb3⟩
set_option maxRecDepth 100000 in
set_option maxHeartbeats 4000000 in
theorem knotUnties_yes (h : Hs) (l : List Pay) (a : Option Addr) (cap : Nat) (w : World) (hp : PaysAt w a cap l) (h1 : goodB h l = true) (h2 : roomyB h = true) :
    Calls Try.prog 12 #[.agg (hc h (.slice a l.length cap))] w fun e w' => e = .returned (.bool true) ∧ Below w.heap.size w w' := by
  have hgd := goodB_true h1
  have hlen := hgd.len
  have hrm := roomy_near (roomyB_true h2)
  have hrH := hgd.room
  have hP1 := fun b hb => untie_left hgd (b := b) hb
  have hP2 := fun b hb => untie_keeps hgd (b := b) hb
  have hP3 := fun b t hb ht => untie_net hgd (b := b) (t := t) hb ht
  have hP4 := untie_len hgd
  have hP5 := untie_total hgd
  have hn24 : ∀ b, b < 4 → mostC h l b ≤ 24 := fun b hb => by
    have := mostC_le (h := h) hb (ofL_is l (b : Int)); have := ofL_len l (b : Int); omega
  have hrX : (untieS h l).h.Room := by rw [(untie_h hgd).1]; exact (near_after hgd.near hlen _).room (by omega)
  have hN96 : Near (untieS h l).h 96 := by rw [(untie_h hgd).1]; exact near_after hgd.near hlen _
  obtain ⟨n, hn⟩ : ∃ n, mostC h l = n := ⟨_, rfl⟩
  obtain ⟨T, hT⟩ : ∃ T, untieS h l = T := ⟨_, rfl⟩
  have hmn : mostN h l = fun b => (n b : Int) := by rw [← hn]; exact mostC_eq h l
  rw [hT] at hP1 hP2 hP3 hP4 hP5 hrX hN96
  rw [hn] at hP1 hP2 hP4 hn24
  have hrm2 : ∀ i, 0 ≤ i → i < 4 → -1152921504606846976 ≤ T.h.has i ∧ T.h.has i ≤ 1152921504606846976 := fun i i0 i1 => by have := hN96.has i i0 i1; omega
  have hns := ns_le hn24
  have hg := hnew w (.cells (hc h (.slice a l.length cap)) 30)
  have hB0 := (Below.refl w.heap.size w).alloc (Nat.le_refl _) (.cells (hc h (.slice a l.length cap)) 30)
  have hp0 := hp.alloc (.cells (hc h (.slice a l.length cap)) 30)
  clear hgd
  replace h1 := Lib.hid h1
  replace h2 := Lib.hid h2
  replace hrm := Lib.hid hrm
  replace hrm2 := Lib.hid hrm2
  replace hP1 := Lib.hid hP1
  replace hP2 := Lib.hid hP2
  replace hP3 := Lib.hid hP3
  replace hP4 := Lib.hid hP4
  replace hP5 := Lib.hid hP5
  replace hn24 := Lib.hid hn24
  replace hmn := Lib.hid hmn
  replace hn := Lib.hid hn
  replace hT := Lib.hid hT
  replace hns := Lib.hid hns
  replace hp := Lib.hid hp
  replace hN96 := Lib.hid hN96
  replace hrH := Lib.hid hrH
  replace hrX := Lib.hid hrX
  go_enter Try.func12, Try.ntmps12
  go_upto_region 3 with (first | go_skip | (refine ld_row 30 _ rfl rfl _ rfl _ _ _ _ hg Try.underlying30 rfl info30 ?_) | (go_at_call 16; refine (good_val h1.out a cap _ hp0).mono ?_; rintro e w1 ⟨rfl, hb1⟩) | (refine ld_row 30 _ rfl rfl _ rfl _ _ _ _ (hkeep hb1 hg) Try.underlying30 rfl info30 ?_) | (go_at_call 31; refine (roomy_val h2.out _ _).mono ?_; rintro e w2 ⟨rfl, hb2⟩))
  have hgH := hkeep hb2 (hkeep hb1 hg)
  have hpH := (hp0.below hb1).below hb2
  have hB := bstep (bstep hB0 hB0.size hb1) (by have := hB0.size; have := hb1.size; omega) hb2
  clear hg hB0 hp0 hb1 hb2
  go_wp2_with (first | go_skip | (refine ld_row 30 _ rfl rfl _ rfl _ _ _ _ hgH Try.underlying30 rfl info30 ?_))
  refine (untie_any h l a cap _ hpH).mono ?_
  rw [hT.out]
  rintro e w3 ⟨⟨a2, cap2, v2, rfl, hp2, hO2⟩, hb3⟩
  obtain ⟨ad, cd, rfl, hi2, _⟩ := hO2.at_
  rw [nats_len]
  replace hgH := hold (hkeep hb3 hgH) (.cells (hc T.h (.slice a2 T.l.length cap2)) 30)
  replace hpH := (hpH.below hb3).alloc (.cells (hc T.h (.slice a2 T.l.length cap2)) 30)
  replace hB := (bstep hB hB.size hb3)
  replace hB := hB.alloc hB.size (.cells (hc T.h (.slice a2 T.l.length cap2)) 30)
  have hgX := hnew w3 (.cells (hc T.h (.slice a2 T.l.length cap2)) 30)
  clear hO2 hb3 hp2 hi2
  replace hgH := Lib.hid hgH
  replace hgX := Lib.hid hgX
  go_upto_region 4 with (first | go_skip | (refine st_new 30 _ _ rfl _ 30 _ rfl rfl rfl (hc T.h (.slice a2 T.l.length cap2)) rfl info30 rfl (hc_one _ _ rfl) ?_))
  replace hgH := hgH.out
  replace hgX := hgX.out
  generalize hW : w3.alloc (.cells (hc T.h (.slice a2 T.l.length cap2)) 30) = W at *
  generalize hC0 : w3.heap.size = cx at *
  clear hW hC0
  go_wp2_with (first | go_skip | (refine ld_row 30 _ rfl rfl _ rfl _ _ _ _ hgH Try.underlying30 rfl info30 ?_))
  refine (most_any h l a cap _ hpH).mono ?_
  rintro e w4 ⟨rfl, hb4⟩
  rw [hmn.out]
  replace hgH := hold (hkeep hb4 hgH) (.cells (nc fun b => (n b : Int)) 26)
  replace hgX := hold (hkeep hb4 hgX) (.cells (nc fun b => (n b : Int)) 26)
  have hgM := hnew w4 (.cells (nc fun b => (n b : Int)) 26)
  replace hB := (bstep hB hB.size hb4)
  replace hB := hB.alloc hB.size (.cells (nc fun b => (n b : Int)) 26)
  clear hb4 hpH
  replace hgH := Lib.hid hgH
  replace hgX := Lib.hid hgX
  replace hgM := Lib.hid hgM
  go_upto_region 5 with (first | go_skip | (refine st_new 26 _ _ rfl _ 26 _ rfl rfl rfl (nc fun b => (n b : Int)) rfl info26 rfl (nc_one _) ?_))
  replace hgH := hgH.out
  replace hgX := hgX.out
  replace hgM := hgM.out
  generalize hW : w4.alloc (.cells (nc fun b => (n b : Int)) 26) = W2 at *
  generalize hC0 : w4.heap.size = cm at *
  clear hW hC0
  go_wp2_with fail
  go_loopg [6, 26] 4 (fun g s6 s26 wr => ∃ (m : Nat) (s : Int), m ≤ 4 ∧ g = 4 - m ∧ s26 = .int .i64 m ∧ s6 = .int .i64 s ∧ s = (ns n m : Int) ∧ Below W2.heap.size W2 wr)
  case atStart => exact ⟨0, 0, by omega, rfl, rfl, rfl, rfl, Below.refl _ _⟩
  case round =>
    obtain ⟨m, s, hm, rfl, rfl, rfl, hs, hbw⟩ := hrel
    by_cases h4 : m < 4
    · have h4d : decide ((m : Int) < 4) = true := decide_eq_true (by omega)
      have hm0 : (m : Int) < 4 := by omega
      have hX := hkeep hbw hgX
      have hH := hkeep hbw hgH
      have hM := hkeep hbw hgM
      obtain ⟨v, hv⟩ : ∃ v : Int, (n m : Int) = v := ⟨_, rfl⟩
      have hnsm := hns.out m (by omega)
      have hnm24 := hn24.out m h4
      have cM : wr.cell? ⟨cm, m, none⟩ = some (.int .i64 v) := by rw [cells_at hM, nc_get _ m h4, hv]
      have hs0 : 0 ≤ s ∧ s ≤ 96 := by rw [hs]; omega
      have hv0 : 0 ≤ v ∧ v ≤ 24 := by rw [← hv]; omega
      have hsn : s + v = (ns n (m + 1) : Int) := by rw [hs, ← hv]; simp [ns]
      have cMx : ∀ x : Wd (Below wr.heap.size wr), x.w.cell? ⟨cm, m, none⟩ = some (.int .i64 v) := fun x => (calm_cells hM x m).trans ((cells_at hM m).symm.trans cM)
      have hcX := calm_cells hX
      have hcH := calm_cells hH
      have hcF : Calls Try.prog 24 #[.agg (hc T.h (.slice a2 T.l.length cap2)), .int .i64 m] wr fun e w' => e = .returned (.int .i64 (T.h.has m + T.h.cr m)) ∧ Below wr.heap.size wr w' := left_any T.h _ (m : Int) wr (by omega) (by omega) hrX.out
      clear hcF
      replace hs := Lib.hid hs
      replace hsn := Lib.hid hsn
      replace hv := Lib.hid hv
      replace hM := Lib.hid hM
      obtain ⟨wo, rfl⟩ : ∃ wo : World, wo = wr := ⟨_, rfl⟩
      go_upto_region 10 with fail
      go_cut [62] (fun s62 wx => s62 = .bool false ∧ Below wo.heap.size wo wx)
      case first =>
        by_cases hvz : v = 0
        · subst hvz
          have hn0 : n m = 0 := by have := hv.out; omega
          have hk := hP2.out m h4 hn0
          have hkd : decide (T.h.has (m : Int) < h.has (m : Int)) = false := decide_eq_false (by omega)
          replace hn0 := Lib.hid hn0
          refine calm_region (Below wo.heap.size wo) (by kernel_rfl) (by kernel_rfl) (calm_start wo) ?_
          repeat (first | go_big_quiet_skip | (go_big_quiet_want; first | (refine calm_row 30 _ rfl _ rfl _ _ _ _ (calm_heap hX) Try.underlying30 rfl info30 ?_; (try simp only [Act.put]); (try simp only [List.setIfInBounds_toArray]); (try simp only [List.set_cons_succ]); (try simp only [List.set_cons_zero]); go_big_quiet_on) | (go_big_quiet_op; first | go_big_quiet_on | go_big_quiet_call (first | (go_at_call 24; exact calm_call (calm_below _) (left_any T.h _ (m : Int) _ (by omega) (by omega) hrX.out))))))
          refine wpQuiet_nil ?_
          intro w8 hI
          go_wp2_with fail
          go_meet
          case rel => exact ⟨rfl, hI⟩
        · have hvp : decide (0 < v) = true := decide_eq_true (by omega)
          have hvp2 : (v == 0) = false := by simpa using hvz
          have hk := hP1.out m h4 (by have := hv.out; omega)
          have hkd : decide (T.h.has (m : Int) + T.h.cr (m : Int) < 0) = false := decide_eq_false (by omega)
          replace hvz := Lib.hid hvz
          refine calm_region (Below wo.heap.size wo) (by kernel_rfl) (by kernel_rfl) (calm_start wo) ?_
          repeat (first | go_big_quiet_skip | (go_big_quiet_want; first | (refine calm_row 30 _ rfl _ rfl _ _ _ _ (calm_heap hX) Try.underlying30 rfl info30 ?_; (try simp only [Act.put]); (try simp only [List.setIfInBounds_toArray]); (try simp only [List.set_cons_succ]); (try simp only [List.set_cons_zero]); go_big_quiet_on) | (go_big_quiet_op; first | go_big_quiet_on | go_big_quiet_call (first | (go_at_call 24; exact calm_call (calm_below _) (left_any T.h _ (m : Int) _ (by omega) (by omega) hrX.out))))))
          refine wpQuiet_nil ?_
          intro w8 hI
          go_wp2_with fail
          go_meet
          case rel => exact ⟨rfl, hI⟩
      case rest =>
        obtain ⟨rfl, hI⟩ := hcut
        have hbw3 := hbw.trans (hI.mono hbw.size)
        clear hcX hcH hI hbw hX hH hM cM cMx
        go_wp2_with fail
        go_loopg [63] 4 (fun g s63 wx => ∃ t : Nat, t ≤ 4 ∧ g = 4 - t ∧ s63 = .int .i64 t ∧ Below W2.heap.size W2 wx)
        case atStart => exact ⟨0, by omega, rfl, rfl, hbw3⟩
        case round =>
          clear hbw3
          obtain ⟨t, ht, rfl, rfl, hbw⟩ := hrel
          by_cases h5 : t < 4
          · have h5d : decide ((t : Int) < 4) = true := decide_eq_true (by omega)
            have ht0 : (t : Int) < 4 := by omega
            have hX := hkeep hbw hgX
            have hH := hkeep hbw hgH
            have hclX := cells_at hX
            obtain ⟨wo, rfl⟩ : ∃ wo : World, wo = wr := ⟨_, rfl⟩
            go_upto_region 16 with fail
            go_cut [92] (fun s92 wx => s92 = .bool false ∧ Below wo.heap.size wo wx)
            case first =>
              clear hclX
              have cN : ∀ h' s w, h' = T.h ∨ h' = h → Calls Try.prog 25 #[.agg (hc h' s), .int .i64 m, .int .i64 t] w fun e w' => e = .returned (.int .i64 (h'.sent m t - h'.sent t m)) ∧ Below w.heap.size w w' := fun h' s w e => by
                rcases e with rfl | rfl
                · exact net_any T.h s (m : Int) (t : Int) w (by omega) (by omega) (by omega) (by omega) hrX.out
                · exact net_any h' s (m : Int) (t : Int) w (by omega) (by omega) (by omega) (by omega) hrH.out
              have hP := hP3.out m t h4 h5
              by_cases hl : 0 ≤ T.h.lim (m : Int) (t : Int)
              · have hld : decide (T.h.lim (m : Int) (t : Int) ≥ 0) = true := decide_eq_true hl
                have hld2 : decide (0 ≤ T.h.lim (m : Int) (t : Int)) = true := decide_eq_true hl
                by_cases ho : T.h.lim (m : Int) (t : Int) < T.h.sent (m : Int) (t : Int) - T.h.sent (t : Int) (m : Int)
                · have hod : decide (T.h.lim (m : Int) (t : Int) < T.h.sent (m : Int) (t : Int) - T.h.sent (t : Int) (m : Int)) = true := decide_eq_true ho
                  have hp3 := hP hl ho
                  have hpd : decide (h.sent (m : Int) (t : Int) - h.sent (t : Int) (m : Int) < T.h.sent (m : Int) (t : Int) - T.h.sent (t : Int) (m : Int)) = false := decide_eq_false (by omega)
                  replace cN := Lib.hid cN
                  replace hP := Lib.hid hP
                  replace hl := Lib.hid hl
                  replace ho := Lib.hid ho
                  replace hp3 := Lib.hid hp3
                  refine calm_region (Below wo.heap.size wo) (by kernel_rfl) (by kernel_rfl) (calm_start wo) ?_
                  repeat (first | go_big_quiet_skip | (go_big_quiet_want; first | (refine calm_row 30 _ rfl _ rfl _ _ _ _ (calm_heap hX) Try.underlying30 rfl info30 ?_; (try simp only [Act.put]); (try simp only [List.setIfInBounds_toArray]); (try simp only [List.set_cons_succ]); (try simp only [List.set_cons_zero]); go_big_quiet_on) | (refine calm_row 30 _ rfl _ rfl _ _ _ _ (calm_heap hH) Try.underlying30 rfl info30 ?_; (try simp only [Act.put]); (try simp only [List.setIfInBounds_toArray]); (try simp only [List.set_cons_succ]); (try simp only [List.set_cons_zero]); go_big_quiet_on) | (go_big_quiet_op; first | go_big_quiet_on | go_big_quiet_call (first | (go_at_call 25; exact calm_call (calm_below _) (cN.out _ _ _ (by first | exact .inl rfl | exact .inr rfl)))))))
                  refine wpQuiet_nil ?_
                  intro w8 hI
                  go_wp2_with fail
                  go_meet
                  case rel => exact ⟨rfl, hI⟩
                · have hod : decide (T.h.lim (m : Int) (t : Int) < T.h.sent (m : Int) (t : Int) - T.h.sent (t : Int) (m : Int)) = false := decide_eq_false ho
                  replace cN := Lib.hid cN
                  replace hP := Lib.hid hP
                  replace hl := Lib.hid hl
                  replace ho := Lib.hid ho
                  refine calm_region (Below wo.heap.size wo) (by kernel_rfl) (by kernel_rfl) (calm_start wo) ?_
                  repeat (first | go_big_quiet_skip | (go_big_quiet_want; first | (refine calm_row 30 _ rfl _ rfl _ _ _ _ (calm_heap hX) Try.underlying30 rfl info30 ?_; (try simp only [Act.put]); (try simp only [List.setIfInBounds_toArray]); (try simp only [List.set_cons_succ]); (try simp only [List.set_cons_zero]); go_big_quiet_on) | (refine calm_row 30 _ rfl _ rfl _ _ _ _ (calm_heap hH) Try.underlying30 rfl info30 ?_; (try simp only [Act.put]); (try simp only [List.setIfInBounds_toArray]); (try simp only [List.set_cons_succ]); (try simp only [List.set_cons_zero]); go_big_quiet_on) | (go_big_quiet_op; first | go_big_quiet_on | go_big_quiet_call (first | (go_at_call 25; exact calm_call (calm_below _) (cN.out _ _ _ (by first | exact .inl rfl | exact .inr rfl)))))))
                  refine wpQuiet_nil ?_
                  intro w8 hI
                  go_wp2_with fail
                  go_meet
                  case rel => exact ⟨rfl, hI⟩
              · have hld : decide (T.h.lim (m : Int) (t : Int) ≥ 0) = false := decide_eq_false hl
                have hld2 : decide (0 ≤ T.h.lim (m : Int) (t : Int)) = false := decide_eq_false hl
                replace cN := Lib.hid cN
                replace hP := Lib.hid hP
                replace hl := Lib.hid hl
                refine calm_region (Below wo.heap.size wo) (by kernel_rfl) (by kernel_rfl) (calm_start wo) ?_
                repeat (first | go_big_quiet_skip | (go_big_quiet_want; first | (refine calm_row 30 _ rfl _ rfl _ _ _ _ (calm_heap hX) Try.underlying30 rfl info30 ?_; (try simp only [Act.put]); (try simp only [List.setIfInBounds_toArray]); (try simp only [List.set_cons_succ]); (try simp only [List.set_cons_zero]); go_big_quiet_on) | (refine calm_row 30 _ rfl _ rfl _ _ _ _ (calm_heap hH) Try.underlying30 rfl info30 ?_; (try simp only [Act.put]); (try simp only [List.setIfInBounds_toArray]); (try simp only [List.set_cons_succ]); (try simp only [List.set_cons_zero]); go_big_quiet_on) | (go_big_quiet_op; first | go_big_quiet_on | go_big_quiet_call (first | (go_at_call 25; exact calm_call (calm_below _) (cN.out _ _ _ (by first | exact .inl rfl | exact .inr rfl)))))))
                refine wpQuiet_nil ?_
                intro w8 hI
                go_wp2_with fail
                go_meet
                case rel => exact ⟨rfl, hI⟩
            case rest =>
              obtain ⟨rfl, hI⟩ := hcut
              have hbw4 := hbw.trans (hI.mono hbw.size)
              clear hclX hX hH hI hbw
              go_wp2_with fail
              go_roundg (4 - (t + 1))
              case measure => omega
              case rel => exact ⟨t + 1, by omega, rfl, by go_num, hbw4⟩
          · obtain rfl : t = 4 := by omega
            go_wp2_with fail
            go_roundg (4 - (m + 1))
            case measure => omega
            case rel => exact ⟨m + 1, s + v, by omega, rfl, by go_num, rfl, hsn.out, hbw⟩
    · obtain rfl : m = 4 := by omega
      have hX := hkeep hbw hgX
      have hH := hkeep hbw hgH
      have hB2 := bstep hB hB.size hbw
      have hsd : s = (T.d.length : Int) := by rw [hs, hP4.out]
      subst hsd
      have cX : ∀ h' s w, h' = T.h ∨ h' = h → Calls Try.prog 26 #[.agg (hc h' s)] w fun e w' => e = .returned (.int .i64 h.total) ∧ Below w.heap.size w w' := fun h' s w e => by
        rcases e with rfl | rfl
        · rw [← hP5.out]; exact sum_any T.h s w hrm2.out
        · exact sum_any h' s w hrm.out
      obtain ⟨tt, htt⟩ : ∃ tt, h.total = tt := ⟨_, rfl⟩
      rw [htt] at cX
      replace htt := Lib.hid htt
      replace cX := Lib.hid cX
      replace hs := Lib.hid hs
      obtain ⟨wo, rfl⟩ : ∃ wo : World, wo = wr := ⟨_, rfl⟩
      go_upto_region 20 with fail
      refine calm_region (Below wo.heap.size wo) (by kernel_rfl) (by kernel_rfl) (calm_start wo) ?_
      repeat (first | go_big_quiet_skip | (go_big_quiet_want; first | (refine calm_row 30 _ rfl _ rfl _ _ _ _ (calm_heap hX) Try.underlying30 rfl info30 ?_; (try simp only [Act.put]); (try simp only [List.setIfInBounds_toArray]); (try simp only [List.set_cons_succ]); (try simp only [List.set_cons_zero]); go_big_quiet_on) | (refine calm_row 30 _ rfl _ rfl _ _ _ _ (calm_heap hH) Try.underlying30 rfl info30 ?_; (try simp only [Act.put]); (try simp only [List.setIfInBounds_toArray]); (try simp only [List.set_cons_succ]); (try simp only [List.set_cons_zero]); go_big_quiet_on) | (go_big_quiet_op; first | go_big_quiet_on | go_big_quiet_call (first | (go_at_call 26; exact calm_call (calm_below _) (cX.out _ _ _ (by first | exact .inl rfl | exact .inr rfl))) | (go_at_call 54; exact calm_call (calm_below _) (knotsK_any _))))))
      refine wpQuiet_nil ?_
      intro w8 hI
      go_wp2_with fail
      go_ret
      exact ⟨rfl, bstep hB2 hB2.size hI⟩
theorem knotUnties_any (h : Hs) (l : List Pay) (a : Option Addr) (cap : Nat) (w : World) (hp : PaysAt w a cap l) :
    Calls Try.prog 12 #[.agg (hc h (.slice a l.length cap))] w fun e w' => e = .returned (.bool true) ∧ Below w.heap.size w w' := by
  cases h1 : goodB h l
  · exact knotUnties_no h l a cap w hp (.inl h1)
  · cases h2 : roomyB h
    · exact knotUnties_no h l a cap w hp (.inr h2)
    · exact knotUnties_yes h l a cap w hp h1 h2
end Go.Proofs.Ytggfdkkhlokmlaa
