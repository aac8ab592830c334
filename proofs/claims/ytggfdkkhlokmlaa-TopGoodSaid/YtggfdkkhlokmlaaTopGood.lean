/- TopGood: the walks. -/
import Derived.Deep.QuietTactic
import Derived.Test.YtggfdkkhlokmlaaPlay
import Derived.Test.YtggfdkkhlokmlaaCOf
import Derived.Test.YtggfdkkhlokmlaaCLed
namespace Go.Proofs.Ytggfdkkhlokmlaa
open Go.RowKit
attribute [local go_sem] hc_pays hc_next hc_size pc_0 pc_1 pc_2 pc_3 pc_4 pc_5
set_option maxRecDepth 100000 in
set_option maxHeartbeats 4000000 in
theorem topGood_look (p : Nat) (av : Nat → Prop) (B : Bk) (d : Deed) (c n : Int) (v : Value) (w : World) (hk : BankAt w p av B) (hg3 : Good3 B.h B.l) :
    Calls Try.prog 51 #[.pointer (some ⟨p, 0, none⟩), .agg (dc d), .agg (rc c n v)] w fun e w' => e = .returned (.bool true) ∧ Below w.heap.size w w' := by
  have hgp := hg3.inv.good hg3.low
  have hgb := hg3.inv.goodB hg3.low
  have hrest := hg3.rest
  have hnd := hg3.inv.nodup
  have hrm := hgp.room
  have hbank := fun w hk => bankHouse_any p av B w hk
  obtain ⟨h, l, t, dn, f, m0⟩ := B
  simp only at hgp hgb hrest hnd hrm hbank
  replace hbank := Lib.hid hbank
  replace hgb := Lib.hid hgb
  replace hrest := Lib.hid hrest
  replace hnd := Lib.hid hnd
  replace hk := Lib.hid hk
  go_enter Try.func51, Try.ntmps51
  go_upto_region 1 with fail
  generalize hW : World.alloc (World.alloc w _) _ = W0
  have hB0 : Below w.heap.size w W0 := by rw [← hW]; exact ((Below.refl w.heap.size w).alloc (Nat.le_refl _) _).alloc (by simp) _
  clear hW
  have hk0 := hk.out.below hB0
  go_upto_region 2 with (first | go_skip | (go_at_call 52; refine (hbank.out _ hk0).mono ?_; rintro e w1 ⟨⟨u, rfl, hown⟩, hb1⟩; obtain ⟨a1, cap1, rfl, hp1, _⟩ := hown.at_) | (refine st_new 30 _ _ rfl _ 30 _ rfl rfl rfl (hc h (.slice a1 l.length cap1)) rfl info30 rfl (hc_one _ _ rfl) ?_))
  have hX0 := hnew w1 (.cells (hc h (.slice a1 l.length cap1)) 30)
  have hp2 := hp1.alloc (.cells (hc h (.slice a1 l.length cap1)) 30)
  have hB1 := (bstep hB0 hB0.size hb1).alloc (bstep hB0 hB0.size hb1).size (.cells (hc h (.slice a1 l.length cap1)) 30)
  generalize hW : w1.alloc (.cells (hc h (.slice a1 l.length cap1)) 30) = W at *
  generalize hC0 : w1.heap.size = cx at *
  clear hW hC0 hown hp1 hb1 hB0 hk0
  go_wp2_with fail
  go_loopg [12] 4 (fun g s12 wr => ∃ m : Nat, m ≤ 4 ∧ g = 4 - m ∧ s12 = .int .i64 m ∧ Below W.heap.size W wr)
  case atStart => exact ⟨0, by omega, rfl, rfl, Below.refl _ _⟩
  case round =>
    obtain ⟨m, hm, rfl, rfl, hbw⟩ := hrel
    have hX := hkeep hbw hX0
    have hpx := hp2.below hbw
    replace hpx := Lib.hid hpx
    by_cases h4 : m < 4
    · have h4d : decide ((m : Int) < 4) = true := decide_eq_true (by omega)
      go_upto_region 6 with (first | go_skip | (refine ld_row 30 _ rfl rfl _ rfl _ _ _ _ hX Try.underlying30 rfl info30 ?_) | (go_at_call 46; refine (of_any h l a1 cap1 (m : Int) _ hpx.out).mono ?_; rintro e w2 ⟨⟨q, xs, rfl, hq, hxo⟩, hb2⟩))
      have hxs := hq.eq hnd.out
      obtain ⟨al, cl, rfl, hil, _⟩ := hxo.at_
      rw [nats_len]
      have hX1 := hkeep hb2 hX
      have hpx1 := hpx.out.below hb2
      have hbw1 := hbw.trans (hb2.mono hbw.size)
      clear hX hpx hq hxo hb2 hbw
      cases xs with
      | nil =>
        replace hil := Lib.hid hil
        replace hxs := Lib.hid hxs
        replace hpx1 := Lib.hid hpx1
        replace hX1 := Lib.hid hX1
        refine calm_region (Below w2.heap.size w2) (by kernel_rfl) (by kernel_rfl) (calm_start w2) ?_
        repeat (first | go_big_quiet_skip | (go_big_quiet_want; (go_big_quiet_op; go_big_quiet_on)))
        refine wpQuiet_nil ?_
        intro w8 hI
        have hbw8 := hbw1.trans (hI.mono hbw1.size)
        go_wp2_with fail
        go_roundg (4 - (m + 1))
        case measure => omega
        case rel => exact ⟨m + 1, by omega, rfl, by go_num, hbw8⟩
      | cons i ys =>
        obtain ⟨hiT, hst, hfr⟩ := (ofL_mem (l := l) (bank := (m : Int)) (i := i)).1 (by rw [← hxs]; simp)
        have hno := hrest.out m h4 i ys hxs.symm
        have hpi := payAt_get hiT
        obtain ⟨q, ep⟩ : ∃ q, payAt l i = q := ⟨_, rfl⟩
        rw [ep] at hpi hfr
        have hmay : mayB h (m : Int) q.to q.amt = false := by rw [← hno, ← hfr]; simp only [St.may, ep]
        have cM : ∀ x : Wd (Below w2.heap.size w2), ∀ s, Calls Try.prog 27 #[.agg (hc h s), .int .i64 (m : Int), .int .i64 q.to, .int .i64 q.amt] x.w fun e w' => e = .returned (.bool false) ∧ Below x.w.heap.size x.w w' := fun x s => by
          rw [← hmay]; exact may_any h s (m : Int) q.to q.amt x.w hrm
        obtain ⟨bl, ol, rfl, hbll, hcl⟩ := hil.row (by simp [nats])
        have hli : ∀ x : Wd (Below w2.heap.size w2), x.w.cell? ⟨bl, ol, none⟩ = some (.int .i64 (i : Int)) := fun x => (x.ok.cell (p := ⟨bl, ol, none⟩) hbll).trans (by have := hcl 0 i (by simp [nats]); simpa using this)
        obtain ⟨bp, op, rfl, hbl, _⟩ := hpx1.row (by omega)
        have hx1 : ∀ x : Wd (Below w2.heap.size w2), x.w.cell? ⟨bp, op + i * 6 + 1, none⟩ = some (.int .i64 q.to) := fun x => ((hpx1.below x.ok).six hpi).2.1
        have hx2 : ∀ x : Wd (Below w2.heap.size w2), x.w.cell? ⟨bp, op + i * 6 + 2, none⟩ = some (.int .i64 q.amt) := fun x => ((hpx1.below x.ok).six hpi).2.2.1
        have c40 : ∀ x : Wd (Below w2.heap.size w2), x.w.cell? ⟨cx, 40, none⟩ = some (.slice (some ⟨bp, op, none⟩) l.length cap1) := fun x => (cells_at (hkeep x.ok hX1) 40).trans (hc_pays _ _)
        have hml : (l.length : Int) ≤ 9223372036854775807 := by have h1 := hpx1.le; have h2 := hpx1.capm; unfold maxLen at h2; omega
        have hii : (i : Int) < (l.length : Int) := by omega
        have hy0 : (0 : Int) < ((ys.length : Nat) : Int) + 1 := by omega
        replace cM := Lib.hid cM
        replace hil := Lib.hid hil
        replace hxs := Lib.hid hxs
        replace hpx1 := Lib.hid hpx1
        replace hst := Lib.hid hst
        replace hfr := Lib.hid hfr
        replace hno := Lib.hid hno
        replace hpi := Lib.hid hpi
        replace hmay := Lib.hid hmay
        replace ep := Lib.hid ep
        clear hcl
        refine calm_region (Below w2.heap.size w2) (by kernel_rfl) (by kernel_rfl) (calm_start w2) ?_
        repeat (first | go_big_quiet_skip | (go_big_quiet_want; first | (refine calm_row 30 _ rfl _ rfl _ _ _ _ (calm_heap hX1) Try.underlying30 rfl info30 ?_; (try simp only [Act.put]); (try simp only [List.setIfInBounds_toArray]); (try simp only [List.set_cons_succ]); (try simp only [List.set_cons_zero]); go_big_quiet_on) | (go_big_quiet_op; first | go_big_quiet_on | go_big_quiet_call (first | (go_at_call 27; rename_i x; exact calm_call (calm_below _) (cM.out x _))))))
        refine wpQuiet_nil ?_
        intro w8 hI
        have hbw8 := hbw1.trans (hI.mono hbw1.size)
        go_wp2_with fail
        go_roundg (4 - (m + 1))
        case measure => omega
        case rel => exact ⟨m + 1, by omega, rfl, by go_num, hbw8⟩
    · have h4d : decide ((m : Int) < 4) = false := decide_eq_false (by omega)
      have hB2 := hB1.trans (hbw.mono hB1.size)
      go_wp2_with (first | go_skip | (refine ld_row 30 _ rfl rfl _ rfl _ _ _ _ hX Try.underlying30 rfl info30 ?_) | (go_at_call 16; refine (good_any h l _ cap1 _ hpx.out).mono ?_; rintro e w9 ⟨rfl, hb9⟩; rw [hgb.out]))
      go_ret
      exact ⟨rfl, bstep hB2 hB2.size hb9⟩
theorem topGood_looks (base : Nat) (l : List Deed) : Looks 51 #[] base (fun _ _ _ => True) l where
  enter := fun args w => by kernel_rfl
  keep := fun _ _ _ _ _ _ _ _ _ => trivial
  look := fun i d p av v w1 _ _ _ hk _ _ _ _ _ => (topGood_look p av _ d _ _ v w1 hk (bs_good l (i + 1))).mono fun _ _ h => ⟨h.1, only_new h.2, trivial⟩
set_option maxRecDepth 100000 in
theorem topGood_any (l : List Deed) (a : Option Addr) (cap : Nat) (w : World) (hl : ActsAt w a cap l) :
    Calls Try.prog 10 #[.slice a l.length cap] w fun e w' => e = .returned (.bool true) ∧ Below w.heap.size w w' := by
  have hlb : 0 < l.length → ∀ b off s, a = some ⟨b, off, s⟩ → b < w.heap.size := fun h b off s e => by
    obtain ⟨b', off', e', hbl, _⟩ := hl.row h
    rw [e] at e'; cases e'; exact hbl
  have cP := play_any 51 #[] w.heap.size (fun _ _ _ => True) l a cap w hl hlb (Nat.le_refl _) (topGood_looks _ l) trivial
  clear hlb
  replace cP := Lib.hid cP
  go_enter Try.func10, Try.ntmps10
  go_wp2_with (first | go_skip | (go_at_call 50; refine cP.out.mono ?_; rintro e w1 ⟨⟨p, av, rfl, _⟩, hb1⟩))
  go_ret
  exact ⟨rfl, hb1⟩
end Go.Proofs.Ytggfdkkhlokmlaa

