/- LedgerTells: the walk. -/
import Derived.Test.YtggfdkkhlokmlaaLedgers
namespace Go.Proofs.Ytggfdkkhlokmlaa
open Go.RowKit
attribute [local go_sem] hc_has hc_cr hc_sent hc_lim hc_pays hc_next hc_size index_accs pc_0 pc_1 pc_2 pc_3 pc_4 pc_5
attribute [local go_sem low] hc_hasN hc_crN hc_sentN hc_limN

theorem good_val {h : Hs} {l : List Pay} {b : Bool} (hb : goodB h l = b) (a : Option Addr) (cap : Nat) (w : World) (hp : PaysAt w a cap l) :
    Calls Try.prog 16 #[.agg (hc h (.slice a l.length cap))] w fun e w' => e = .returned (.bool b) ∧ Below w.heap.size w w' := by
  subst hb; exact good_any h l a cap w hp
theorem isHouse_val {h : Hs} {l : List Pay} {b : Bool} (hb : goodB h l = b) (a : Option Addr) (cap : Nat) (w : World) (hp : PaysAt w a cap l) :
    Calls Try.prog 17 #[.agg (hc h (.slice a l.length cap))] w fun e w' => e = .returned (.bool b) ∧ Below w.heap.size w w' := by
  subst hb; exact isHouse_any h l a cap w hp

set_option maxRecDepth 100000 in
set_option maxHeartbeats 4000000 in
theorem ledgerTells_any (h : Hs) (l : List Pay) (a : Option Addr) (cap : Nat) (frm dst amt : Int) (w : World) (hp : PaysAt w a cap l) :
    Calls Try.prog 4 #[.agg (hc h (.slice a l.length cap)), .int .i64 frm, .int .i64 dst, .int .i64 amt] w fun e w' => e = .returned (.bool true) ∧ Below w.heap.size w w' := by
  have hml : l.length ≤ 9223372036854775807 := by have h1 := hp.le; have h2 := hp.capm; unfold maxLen at h2; omega
  have hg := hnew w (.cells (hc h (.slice a l.length cap)) 30)
  cases hG : goodB h l
  all_goals
    replace hG := Lib.hid hG
    go_enter Try.func4, Try.ntmps4
    go_wp2_with (first | go_skip | (refine ld_row 30 _ rfl rfl _ rfl _ _ _ _ hg Try.underlying30 rfl info30 ?_))
    refine (copyHouse_any h l a cap _ (hp.alloc _)).mono ?_
    rintro e w1 ⟨⟨v, rfl, hO⟩, hb1⟩
    obtain ⟨a', cap', rfl, hpc, _⟩ := hO.at_
    have hg1 := hkeep hb1 hg
    have hB1 : Below w.heap.size w w1 := bstep ((Below.refl _ _).alloc (Nat.le_refl _) _) (by simp) hb1
    have hp1 := (hp.alloc (.cells (hc h (.slice a l.length cap)) 30)).below hb1
    have hgA := hold hg1 (.cells (hc h (.slice a' l.length cap')) 30)
    have hgC := hnew w1 (.cells (hc h (.slice a' l.length cap')) 30)
    have hpA := hp1.alloc (.cells (hc h (.slice a' l.length cap')) 30)
    have hpC := hpc.alloc (.cells (hc h (.slice a' l.length cap')) 30)
    have hB := hB1.alloc hB1.size (.cells (hc h (.slice a' l.length cap')) 30)
    clear hg hg1 hp1 hb1 hO hpc hB1
    replace hgA := Lib.hid hgA
    replace hgC := Lib.hid hgC
    go_wp2_with (refine st_new 30 _ _ rfl _ 30 _ rfl rfl rfl (hc h (.slice a' l.length cap')) rfl info30 rfl (hc_one _ _ rfl) ?_)
    replace hgA := hgA.out
    replace hgC := hgC.out
    generalize hW : w1.alloc (.cells (hc h (.slice a' l.length cap')) 30) = W at *
    generalize hC0 : w1.heap.size = cb at *
    clear hW
    simp only [Act.put]
    refine calm_region (Below W.heap.size W) (by kernel_rfl) (by kernel_rfl) (calm_start W) ?_
    repeat (first | go_big_quiet_skip | (go_big_quiet_want; first | (refine calm_row 30 _ rfl _ rfl _ _ _ _ (calm_heap hgA) Try.underlying30 rfl info30 ?_; simp only [Act.put, List.setIfInBounds_toArray, List.set_cons_succ, List.set_cons_zero]; go_big_quiet_on) | (refine calm_row 30 _ rfl _ rfl _ _ _ _ (calm_heap hgC) Try.underlying30 rfl info30 ?_; simp only [Act.put, List.setIfInBounds_toArray, List.set_cons_succ, List.set_cons_zero]; go_big_quiet_on) | (go_big_quiet_op; first | go_big_quiet_on | go_big_quiet_call (first | (go_at_call 16; rename_i x; exact calm_call (calm_below W) (good_val hG.out a' cap' _ (hpC.below x.ok))) | (go_at_call 17; rename_i x; exact calm_call (calm_below W) (isHouse_val hG.out a cap _ (hpA.below x.ok))) | (go_at_call 19; exact calm_call (calm_below W) (new_any _)) | (go_at_call 20; exact calm_call (calm_below W) (newHouse_any _)) | (go_at_call 18; exact calm_call (calm_below W) (sameHouse_eq Hs.new [] none none 0 0 _ (nilPays _) (nilPays _))) | (go_at_call 21; exact calm_call (calm_below W) (ledgersL_any _))))))
    refine wpQuiet_nil ?_
    intro w3 hI
    replace hgA := hkeep hI hgA
    replace hgC := hkeep hI hgC
    replace hpA := hpA.below hI
    replace hpC := hpC.below hI
    replace hB := bstep hB hB.size hI
    clear hI
    have hcl := cells_at hgA
    go_wp2_with fail
    clear hcl
    go_loopg [36] l.length (fun g i wr => ∃ k : Nat, k ≤ l.length ∧ g = l.length - k ∧ i = .int .i64 k ∧ wr.heap[w.heap.size]? = some (.cells (hc h (.slice a l.length cap)) 30 (0, 0)) ∧ wr.heap[cb]? = some (.cells (hc h (.slice a' l.length cap')) 30 (0, 0)) ∧ PaysAt wr a cap l ∧ PaysAt wr a' cap' l ∧ Below w.heap.size w wr)
    case atStart => exact ⟨0, by omega, rfl, rfl, hgA, hgC, hpA, hpC, hB⟩
    case round =>
      clear hgA hgC hpA hpC hB
      obtain ⟨k, hk, rfl, rfl, hgA, hgC, hpA, hpC, hB⟩ := hrel
      by_cases h4 : k < l.length
      · obtain ⟨p, hpk⟩ : ∃ p, l[k]? = some p := ⟨l[k], List.getElem?_eq_getElem h4⟩
        obtain ⟨b1, o1, rfl, _, _⟩ := hpA.row (by omega)
        have hpc' : ∀ j v, (pc p)[j]? = some v → wr.cell? ⟨b1, o1 + k * 6 + j, none⟩ = some v := by
          obtain ⟨_, _, e, _, hc⟩ := hpA.row (by omega)
          cases e
          intro j v hv
          rw [Nat.add_assoc]
          exact hc k p hpk j v hv
        replace hpc' := Lib.hid hpc'
        clear hpk
        go_upto_region 7 with (first | go_skip | (refine ld_cells 36 _ rfl rfl _ _ rfl (pc p) _ Try.underlying36 rfl info36 hpc'.out ?_) | (refine st_new 36 _ _ rfl _ 36 _ rfl rfl rfl (pc p) rfl info36 rfl (pc_one p) ?_))
        have hq := hnew wr (.cells (pc p) 36)
        simp only [Act.put]
        replace hgA := hold hgA (.cells (pc p) 36)
        replace hgC := hold hgC (.cells (pc p) 36)
        replace hpA := hpA.alloc (.cells (pc p) 36)
        replace hpC := hpC.alloc (.cells (pc p) 36)
        replace hB := hB.alloc hB.size (.cells (pc p) 36)
        generalize wr.alloc (.cells (pc p) 36) = W2 at *
        refine calm_region (Below W2.heap.size W2) (by kernel_rfl) (by kernel_rfl) (calm_start _) ?_
        repeat (first | go_big_quiet_skip | (go_big_quiet_want; first | (refine calm_row 36 _ rfl _ rfl _ (pc p) _ _ (calm_heap hq) Try.underlying36 rfl info36 ?_; simp only [Act.put, List.setIfInBounds_toArray, List.set_cons_succ, List.set_cons_zero]; go_big_quiet_on) | (go_big_quiet_op; first | go_big_quiet_on | go_big_quiet_call (first | (go_at_call 22; rename_i x; exact calm_call (calm_below _) (goodPay_any p _)) | (go_at_call 23; rename_i x; exact calm_call (calm_below _) (isPay_any p _))))))
        refine wpQuiet_nil ?_
        intro w4 hI
        replace hgA := hkeep hI hgA
        replace hgC := hkeep hI hgC
        replace hpA := hpA.below hI
        replace hpC := hpC.below hI
        replace hB := bstep hB hB.size hI
        clear hI hq
        go_wp2_with fail
        go_roundg (l.length - (k + 1))
        case measure => omega
        case rel => exact ⟨k + 1, by omega, rfl, by go_num, hgA, hgC, hpA, hpC, hB⟩
      · have hd : decide ((k : Int) < l.length) = false := by simp; omega
        go_wp2_with (first | go_skip | (refine ld_row 30 _ rfl rfl _ rfl _ _ _ _ hgA Try.underlying30 rfl info30 ?_))
        refine (isHouse_val hG.out a cap _ hpA).mono ?_
        rintro e w5 ⟨rfl, hb5⟩
        replace hgA := hkeep hb5 hgA
        replace hgC := hkeep hb5 hgC
        replace hpA := hpA.below hb5
        replace hpC := hpC.below hb5
        replace hB := bstep hB hB.size hb5
        clear hb5
        first
          | (go_wp2_with fail; go_ret; exact ⟨rfl, hB⟩)
          | skip
        all_goals
          have hGood := goodB_true hG.out
          have hr := Lib.hid hGood.room
          have hr60 : ∀ i, 0 ≤ i → i < 4 → -1152921504606846976 ≤ h.has i ∧ h.has i ≤ 1152921504606846976 := fun i h0 h1 => by have := sm_true (hGood.banks i h0 h1).has; omega
          have hsb := Lib.hid (sumTo_bound h hr60)
          replace hr60 := Lib.hid hr60
          clear hGood
          have hcl := cells_at hgA
          go_wp2_with (first | go_skip | (refine ld_mid 25 _ rfl rfl _ 0 rfl _ _ (accs h) _ _ hgA Try.underlying25 rfl info25 (hc_accs h _) ?_))
          clear hcl
          go_loopg [12, 51] 4 (fun g t i wr => ∃ n : Nat, n ≤ 4 ∧ g = 4 - n ∧ i = .int .i64 n ∧ t = .int .i64 (sumTo h n) ∧ wr.heap[w.heap.size]? = some (.cells (hc h (.slice a l.length cap)) 30 (0, 0)) ∧ wr.heap[cb]? = some (.cells (hc h (.slice a' l.length cap')) 30 (0, 0)) ∧ PaysAt wr a cap l ∧ PaysAt wr a' cap' l ∧ Below w.heap.size w wr)
          case atStart => exact ⟨0, by omega, rfl, rfl, rfl, hgA, hgC, hpA, hpC, hB⟩
          case round =>
            clear hgA hgC hpA hpC hB
            obtain ⟨n, hn, rfl, rfl, rfl, hgA, hgC, hpA, hpC, hB⟩ := hrel
            by_cases h6 : n < 4
            · have hr1 := hr60.out n (by omega) (by omega)
              have hs1 := hsb.out n hn
              have hc1 := hr.out.cr n (by omega) (by omega)
              have e1 : Hid (sumTo h (n + 1) = sumTo h n + h.has n) := rfl
              go_upto_region 17 with fail
              replace hgA := hold hgA (.cells #[.int .i64 (h.has n), .int .i64 (h.cr n)] 24)
              replace hgC := hold hgC (.cells #[.int .i64 (h.has n), .int .i64 (h.cr n)] 24)
              replace hpA := hpA.alloc (.cells #[.int .i64 (h.has n), .int .i64 (h.cr n)] 24)
              replace hpC := hpC.alloc (.cells #[.int .i64 (h.has n), .int .i64 (h.cr n)] 24)
              replace hB := hB.alloc hB.size (.cells #[.int .i64 (h.has n), .int .i64 (h.cr n)] 24)
              have hq := hnew wr (.cells #[.int .i64 (h.has n), .int .i64 (h.cr n)] 24)
              generalize wr.alloc (.cells #[.int .i64 (h.has n), .int .i64 (h.cr n)] 24) = W2 at *
              have hcq := calm_cells hq
              refine calm_region (Below W2.heap.size W2) (by kernel_rfl) (by kernel_rfl) (calm_start W2) ?_
              repeat (first | go_big_quiet_skip | (go_big_quiet_want; first | (refine calm_row 30 _ rfl _ rfl _ _ _ _ (calm_heap hgC) Try.underlying30 rfl info30 ?_; simp only [Act.put, List.setIfInBounds_toArray, List.set_cons_succ, List.set_cons_zero]; go_big_quiet_on) | (go_big_quiet_op; first | go_big_quiet_on | go_big_quiet_call (first | (go_at_call 24; rename_i x; exact calm_call (calm_below _) (left_any h _ n _ (by omega) (by omega) hr.out))))))
              refine wpQuiet_nil ?_
              intro w6 hI
              replace hgA := hkeep hI hgA
              replace hgC := hkeep hI hgC
              replace hpA := hpA.below hI
              replace hpC := hpC.below hI
              replace hB := bstep hB hB.size hI
              clear hI
              clear hq hcq
              go_wp2_with fail
              go_loopg [68] 4 (fun g i wr => ∃ m : Nat, m ≤ 4 ∧ g = 4 - m ∧ i = .int .i64 m ∧ wr.heap[w.heap.size]? = some (.cells (hc h (.slice a l.length cap)) 30 (0, 0)) ∧ wr.heap[cb]? = some (.cells (hc h (.slice a' l.length cap')) 30 (0, 0)) ∧ PaysAt wr a cap l ∧ PaysAt wr a' cap' l ∧ Below w.heap.size w wr)
              case atStart => exact ⟨0, by omega, rfl, rfl, hgA, hgC, hpA, hpC, hB⟩
              case round =>
                clear hgA hgC hpA hpC hB
                obtain ⟨m, hm, rfl, rfl, hgA, hgC, hpA, hpC, hB⟩ := hrel
                by_cases h7 : m < 4
                · have hx1 := hr.out.sent n m (by omega) (by omega) (by omega) (by omega)
                  have hx2 := hr.out.sent m n (by omega) (by omega) (by omega) (by omega)
                  go_upto_region 22 with fail
                  have hcq := calm_cells hgA
                  refine calm_region (Below wr.heap.size wr) (by kernel_rfl) (by kernel_rfl) (calm_start wr) ?_
                  repeat (first | go_big_quiet_skip | (go_big_quiet_want; first | (refine calm_row 30 _ rfl _ rfl _ _ _ _ (calm_heap hgC) Try.underlying30 rfl info30 ?_; simp only [Act.put, List.setIfInBounds_toArray, List.set_cons_succ, List.set_cons_zero]; go_big_quiet_on) | (go_big_quiet_op; first | go_big_quiet_on | go_big_quiet_call (first | (go_at_call 25; rename_i x; exact calm_call (calm_below _) (net_any h _ n m _ (by omega) (by omega) (by omega) (by omega) hr.out))))))
                  refine wpQuiet_nil ?_
                  intro w7 hI
                  replace hgA := hkeep hI hgA
                  replace hgC := hkeep hI hgC
                  replace hpA := hpA.below hI
                  replace hpC := hpC.below hI
                  replace hB := bstep hB hB.size hI
                  clear hI
                  clear hcq
                  go_wp2_with fail
                  go_roundg (4 - (m + 1))
                  case measure => omega
                  case rel => exact ⟨m + 1, by omega, rfl, by go_num, hgA, hgC, hpA, hpC, hB⟩
                · have hd7 : decide ((m : Int) < 4) = false := by simp; omega
                  go_wp2_with fail
                  go_roundg (4 - (n + 1))
                  case measure => omega
                  case rel => exact ⟨n + 1, by omega, rfl, by go_num, by rw [e1.out], hgA, hgC, hpA, hpC, hB⟩
            · have hd6 : decide ((n : Int) < 4) = false := by simp; omega
              have hn4 : n = 4 := by omega
              have e1 : sumTo h n = h.total := by rw [hn4]; rfl
              rw [e1]
              clear hn4 e1
              go_upto_region 26 with fail
              refine calm_region (Below wr.heap.size wr) (by kernel_rfl) (by kernel_rfl) (calm_start wr) ?_
              repeat (first | go_big_quiet_skip | (go_big_quiet_want; first | (refine calm_row 30 _ rfl _ rfl _ _ _ _ (calm_heap hgA) Try.underlying30 rfl info30 ?_; simp only [Act.put, List.setIfInBounds_toArray, List.set_cons_succ, List.set_cons_zero]; go_big_quiet_on) | (refine calm_row 30 _ rfl _ rfl _ _ _ _ (calm_heap hgC) Try.underlying30 rfl info30 ?_; simp only [Act.put, List.setIfInBounds_toArray, List.set_cons_succ, List.set_cons_zero]; go_big_quiet_on) | (go_big_quiet_op; first | go_big_quiet_on | go_big_quiet_call (first | (go_at_call 26; rename_i x; exact calm_call (calm_below _) (sum_any h _ _ hr60.out)) | (go_at_call 27; rename_i x; exact calm_call (calm_below _) (may_any h _ frm dst amt _ hr.out)) | (go_at_call 28; rename_i x; exact calm_call (calm_below _) (maySend_any h _ frm dst amt _ hr.out)) | (go_at_call 29; rename_i x; exact calm_call (calm_below _) (move_any h _ frm dst amt _ hr.out rfl)) | (go_at_call 30; rename_i x; exact calm_call (calm_below _) (moveSum_any h _ frm dst amt _ hr.out rfl)) | (go_at_call 18; rename_i x; exact calm_call (calm_below _) (sameHouse_eq _ l a' a cap' cap _ (hpC.below x.ok) (hpA.below x.ok)))))))
              refine wpQuiet_nil ?_
              intro w8 hI
              replace hB := bstep hB hB.size hI
              go_wp2_with fail
              go_ret
              exact ⟨rfl, hB⟩
end Go.Proofs.Ytggfdkkhlokmlaa
