/- LedgerSums: the walk. -/
import Derived.Test.YtggfdkkhlokmlaaTells
namespace Go.Proofs.Ytggfdkkhlokmlaa
open Go.RowKit

/-- Far enough from the bounds. -/
structure Roomy (h : Hs) : Prop where
  has : ∀ i : Int, 0 ≤ i → i < 4 → -1099478073344 ≤ h.has i ∧ h.has i ≤ 1099478073344
  sent : ∀ i k : Int, 0 ≤ i → i < 4 → 0 ≤ k → k < 4 → h.sent i k ≤ 1099478073344
open Classical in
noncomputable def roomyB (h : Hs) : Bool := decide (Roomy h)
theorem roomyB_no {h : Hs} (hn : ¬ Roomy h) : roomyB h = false := by simp [roomyB, hn]
theorem roomyB_yes {h : Hs} (hn : Roomy h) : roomyB h = true := by simp [roomyB, hn]
theorem roomyB_true {h : Hs} (hn : roomyB h = true) : Roomy h := by simpa [roomyB] using hn

theorem move_lim (h : Hs) (frm dst amt : Int) : (h.move frm dst amt).lim = h.lim := by unfold Hs.move; split <;> rfl
theorem move_cr (h : Hs) (frm dst amt : Int) : (h.move frm dst amt).cr = h.cr := by unfold Hs.move; split <;> rfl
theorem move_next (h : Hs) (frm dst amt : Int) : (h.move frm dst amt).next = h.next := by unfold Hs.move; split <;> rfl
theorem move_eq {h : Hs} {frm dst amt : Int} (hs : Sends frm dst amt) : h.move frm dst amt = ((h.setHas frm (h.has frm - amt)).setHas dst (h.has dst + amt)).setSent frm dst (h.sent frm dst + amt) := by simp [Hs.move, sends_true.2 hs]
theorem move_has {h : Hs} {frm dst amt : Int} (hs : Sends frm dst amt) (i : Int) : (h.move frm dst amt).has i = if i = dst then h.has dst + amt else if i = frm then h.has frm - amt else h.has i := by
  rw [move_eq hs]; rfl
theorem move_sent {h : Hs} {frm dst amt : Int} (hs : Sends frm dst amt) (i k : Int) : (h.move frm dst amt).sent i k = if i = frm ∧ k = dst then h.sent frm dst + amt else h.sent i k := by
  rw [move_eq hs]; rfl
theorem move_other (h : Hs) (frm dst amt i : Int) (h1 : i ≠ frm) (h2 : i ≠ dst) : (h.move frm dst amt).has i = h.has i := by
  cases hs : sends frm dst amt
  · simp [Hs.move, hs]
  · rw [move_has (sends_true.1 hs), if_neg h2, if_neg h1]
theorem move_total (h : Hs) (frm dst amt : Int) : (h.move frm dst amt).total = h.total := by
  cases hs : sends frm dst amt
  · simp [Hs.move, hs]
  · have hs := sends_true.1 hs
    have hne := hs.ne
    simp only [Hs.total, sumTo, move_has hs]
    rcases four ⟨hs.f0, hs.f1⟩ with rfl | rfl | rfl | rfl <;> rcases four ⟨hs.t0, hs.t1⟩ with rfl | rfl | rfl | rfl <;> first | exact absurd rfl hne | (simp; omega)
/-- Room for one more sum. -/
theorem move_room {h : Hs} {m : Int} (hm : 0 ≤ m ∧ m ≤ 4611686018426386904) (h1 : ∀ i, 0 ≤ i → i < 4 → -m ≤ h.has i ∧ h.has i ≤ m) (h2 : ∀ i, 0 ≤ i → i < 4 → 0 ≤ h.cr i ∧ h.cr i ≤ 1000000)
    (h3 : ∀ i k, 0 ≤ i → i < 4 → 0 ≤ k → k < 4 → 0 ≤ h.sent i k ∧ h.sent i k ≤ m) (frm dst amt : Int) : (h.move frm dst amt).Room := by
  cases hs : sends frm dst amt
  · have e : h.move frm dst amt = h := by simp [Hs.move, hs]
    rw [e]
    exact ⟨fun i i0 i1 => by have := h1 i i0 i1; omega, h2, fun i k i0 i1 k0 k1 => by have := h3 i k i0 i1 k0 k1; omega⟩
  · have hs := sends_true.1 hs
    have a0 := hs.a0
    have a1 := hs.a1
    refine ⟨fun i i0 i1 => ?_, fun i i0 i1 => by rw [move_cr]; exact h2 i i0 i1, fun i k i0 i1 k0 k1 => ?_⟩
    · rw [move_has hs]
      have x1 := h1 i i0 i1
      have x2 := h1 dst hs.t0 hs.t1
      have x3 := h1 frm hs.f0 hs.f1
      split
      · omega
      · split <;> omega
    · rw [move_sent hs]
      have x1 := h3 i k i0 i1 k0 k1
      have x2 := h3 frm dst hs.f0 hs.f1 hs.t0 hs.t1
      split <;> omega
theorem may_val {h : Hs} {b : Bool} {frm dst amt : Int} (hb : mayB h frm dst amt = b) (s : Value) (w : World) (hr : h.Room) :
    Calls Try.prog 27 #[.agg (hc h s), .int .i64 frm, .int .i64 dst, .int .i64 amt] w fun e w' => e = .returned (.bool b) ∧ Below w.heap.size w w' := by
  subst hb; exact may_any h s frm dst amt w hr
theorem mayB_true {h : Hs} {frm dst amt : Int} (hm : mayB h frm dst amt = true) : Sends frm dst amt ∧ amt ≤ h.has frm + h.cr frm ∧ (h.lim frm dst < 0 ∨ h.sent frm dst - h.sent dst frm + amt ≤ h.lim frm dst) := by
  simp only [mayB, Bool.and_eq_true, Bool.or_eq_true, decide_eq_true_eq] at hm
  exact ⟨sends_true.1 hm.1, hm.2.1, hm.2.2⟩
attribute [local go_sem] hc_has hc_cr hc_sent hc_lim hc_pays hc_next hc_size
attribute [local go_sem low] hc_hasN hc_crN hc_sentN hc_limN

set_option maxHeartbeats 1000000 in
theorem roomy_any (h : Hs) (s : Value) (w : World) :
    Calls Try.prog 31 #[.agg (hc h s)] w fun e w' => e = .returned (.bool (roomyB h)) ∧ Below w.heap.size w w' := by
  have hg := hnew w (.cells (hc h s) 30)
  go_enter Try.func31, Try.ntmps31
  go_wp2
  go_loopg [6] 4 (fun g i wr => ∃ k : Nat, k ≤ 4 ∧ g = 4 - k ∧ i = .int .i64 k ∧ (∀ j : Nat, j < k → (-1099478073344 ≤ h.has j ∧ h.has j ≤ 1099478073344) ∧ ∀ m : Nat, m < 4 → h.sent j m ≤ 1099478073344) ∧ wr.heap[w.heap.size]? = some (.cells (hc h s) 30 (0, 0)) ∧ Below w.heap.size w wr)
  case atStart => exact ⟨0, by omega, rfl, rfl, fun j hj => absurd hj (by omega), hg, (Below.refl _ _).alloc (Nat.le_refl _) _⟩
  case round =>
    clear hg
    obtain ⟨k, hk, rfl, rfl, hok, hg, hb⟩ := hrel
    have hcl := cells_at hg
    replace hok := Lib.hid hok
    by_cases h4 : k < 4
    · by_cases h5 : h.has k < -1099478073344
      · have fin : roomyB h = false := roomyB_no fun r => by have := r.has k (by omega) (by omega); omega
        replace fin := Lib.hid fin
        go_wp2
        go_ret
        exact ⟨by rw [fin.out]; rfl, hb⟩
      have hd5 : decide (h.has k < -1099478073344) = false := by simpa using h5
      by_cases h6 : 1099478073344 < h.has k
      · have fin : roomyB h = false := roomyB_no fun r => by have := r.has k (by omega) (by omega); omega
        replace fin := Lib.hid fin
        go_wp2
        go_ret
        exact ⟨by rw [fin.out]; rfl, hb⟩
      have hd6 : decide (1099478073344 < h.has k) = false := by simpa using h6
      go_wp2
      clear hcl
      go_loopg [20] 4 (fun g i wr => ∃ m : Nat, m ≤ 4 ∧ g = 4 - m ∧ i = .int .i64 m ∧ (∀ j : Nat, j < m → h.sent k j ≤ 1099478073344) ∧ wr.heap[w.heap.size]? = some (.cells (hc h s) 30 (0, 0)) ∧ Below w.heap.size w wr)
      case atStart => exact ⟨0, by omega, rfl, rfl, fun j hj => absurd hj (by omega), hg, hb⟩
      case round =>
        clear hg hb
        obtain ⟨m, hm, rfl, rfl, hokc, hg, hb⟩ := hrel
        have hcl := cells_at hg
        replace hokc := Lib.hid hokc
        by_cases h7 : m < 4
        · by_cases h8 : 1099478073344 < h.sent k m
          · have fin : roomyB h = false := roomyB_no fun r => by have := r.sent k m (by omega) (by omega) (by omega) (by omega); omega
            replace fin := Lib.hid fin
            go_wp2
            go_ret
            exact ⟨by rw [fin.out]; rfl, hb⟩
          have hd8 : decide (1099478073344 < h.sent k m) = false := by simpa using h8
          have hnew : Hid (h.sent k m ≤ 1099478073344) := show _ ≤ _ by omega
          go_wp2
          go_roundg (4 - (m + 1))
          case measure => omega
          case rel => exact ⟨m + 1, by omega, rfl, by go_num, fun j hj => if e : j = m then by rw [e]; exact hnew.out else hokc.out j (by omega), hg, hb⟩
        · have hd7 : decide ((m : Int) < 4) = false := by simp; omega
          have hnew : Hid ((-1099478073344 ≤ h.has k ∧ h.has k ≤ 1099478073344) ∧ ∀ m : Nat, m < 4 → h.sent k m ≤ 1099478073344) := show (_ ∧ _) ∧ _ from ⟨⟨by omega, by omega⟩, fun j hj => hokc.out j (by omega)⟩
          go_wp2
          go_roundg (4 - (k + 1))
          case measure => omega
          case rel => exact ⟨k + 1, by omega, rfl, by go_num, fun j hj => if e : j = k then by rw [e]; exact hnew.out else hok.out j (by omega), hg, hb⟩
    · have hd4 : decide ((k : Int) < 4) = false := by simp; omega
      have fin : roomyB h = true := roomyB_yes ⟨fun i i0 i1 => by
          obtain ⟨j, rfl⟩ := Int.eq_ofNat_of_zero_le i0
          exact (hok.out j (by omega)).1, fun i m i0 i1 m0 m1 => by
          obtain ⟨j, rfl⟩ := Int.eq_ofNat_of_zero_le i0
          obtain ⟨n, rfl⟩ := Int.eq_ofNat_of_zero_le m0
          exact (hok.out j (by omega)).2 n (by omega)⟩
      replace fin := Lib.hid fin
      go_wp2
      go_ret
      exact ⟨by rw [fin.out]; rfl, hb⟩
theorem roomy_val {h : Hs} {b : Bool} (hb : roomyB h = b) (s : Value) (w : World) :
    Calls Try.prog 31 #[.agg (hc h s)] w fun e w' => e = .returned (.bool b) ∧ Below w.heap.size w w' := by
  subst hb; exact roomy_any h s w

set_option maxRecDepth 100000 in
set_option maxHeartbeats 4000000 in
theorem ledgerSums_no (h : Hs) (l : List Pay) (a : Option Addr) (cap : Nat) (frm dst amt : Int) (w : World) (hp : PaysAt w a cap l) (hno : goodB h l = false ∨ roomyB h = false) :
    Calls Try.prog 5 #[.agg (hc h (.slice a l.length cap)), .int .i64 frm, .int .i64 dst, .int .i64 amt] w fun e w' => e = .returned (.bool true) ∧ Below w.heap.size w w' := by
  have hg := hnew w (.cells (hc h (.slice a l.length cap)) 30)
  cases hG : goodB h l
  · replace hG := Lib.hid hG
    clear hno
    go_enter Try.func5, Try.ntmps5
    go_wp2_with (first | go_skip | (go_at_call 16; refine (good_val hG.out a cap _ (hp.alloc _)).mono ?_; rintro e w1 ⟨rfl, hb1⟩) | (go_at_call 32; refine (ledgersK_any _).mono ?_; rintro e w2 ⟨rfl, hb2⟩) | (refine ld_row 30 _ rfl rfl _ rfl _ _ _ _ hg Try.underlying30 rfl info30 ?_))
    go_ret
    have hB1 := bstep ((Below.refl w.heap.size w).alloc (Nat.le_refl _) _) (by simp) hb1
    exact ⟨rfl, bstep hB1 hB1.size hb2⟩
  · have hR : roomyB h = false := by rcases hno with e | e; · rw [e] at hG; cases hG
                                     · exact e
    replace hG := Lib.hid hG
    replace hR := Lib.hid hR
    clear hno
    go_enter Try.func5, Try.ntmps5
    go_wp2_with (first | go_skip | (go_at_call 16; refine (good_val hG.out a cap _ (hp.alloc _)).mono ?_; rintro e w1 ⟨rfl, hb1⟩; replace hg := hkeep hb1 hg) | (go_at_call 31; refine (roomy_val hR.out _ _).mono ?_; rintro e w2 ⟨rfl, hb2⟩) | (go_at_call 32; refine (ledgersK_any _).mono ?_; rintro e w3 ⟨rfl, hb3⟩) | (refine ld_row 30 _ rfl rfl _ rfl _ _ _ _ hg Try.underlying30 rfl info30 ?_))
    go_ret
    have hB1 := bstep ((Below.refl w.heap.size w).alloc (Nat.le_refl _) _) (by simp) hb1
    have hB2 := bstep hB1 hB1.size hb2
    exact ⟨rfl, bstep hB2 hB2.size hb3⟩

set_option maxRecDepth 100000 in
set_option maxHeartbeats 4000000 in
theorem ledgerSums_yes (h : Hs) (l : List Pay) (a : Option Addr) (cap : Nat) (frm dst amt : Int) (w : World) (hp : PaysAt w a cap l) (hG : goodB h l = true) (hR : roomyB h = true) :
    Calls Try.prog 5 #[.agg (hc h (.slice a l.length cap)), .int .i64 frm, .int .i64 dst, .int .i64 amt] w fun e w' => e = .returned (.bool true) ∧ Below w.heap.size w w' := by
  have hgA := hnew w (.cells (hc h (.slice a l.length cap)) 30)
  have hGood := goodB_true hG
  have hr := Lib.hid hGood.room
  have hh60 : ∀ i, 0 ≤ i → i < 4 → -1152921504606846976 ≤ h.has i ∧ h.has i ≤ 1152921504606846976 := fun i h0 h1 => by have := sm_true (hGood.banks i h0 h1).has; omega
  have hx0 : (h.move frm dst amt).Room := move_room (m := 1099511627776) (by omega) (fun i i0 i1 => sm_true (hGood.banks i i0 i1).has) (fun i i0 i1 => sm_true (hGood.banks i i0 i1).cr) (fun i k i0 i1 k0 k1 => sm_true ((hGood.banks i i0 i1).cells k k0 k1).s) frm dst amt
  have hx60 : ∀ i, 0 ≤ i → i < 4 → -1152921504606846976 ≤ (h.move frm dst amt).has i ∧ (h.move frm dst amt).has i ≤ 1152921504606846976 := fun i i0 i1 => by
    have x1 := hh60 i i0 i1
    have y1 := sm_true (hGood.banks i i0 i1).has
    cases hs : sends frm dst amt
    · have e : h.move frm dst amt = h := by simp [Hs.move, hs]
      rw [e]; exact x1
    · have hs := sends_true.1 hs
      have y2 := sm_true (hGood.banks dst hs.t0 hs.t1).has
      have y3 := sm_true (hGood.banks frm hs.f0 hs.f1).has
      have a0 := hs.a0
      have a1 := hs.a1
      rw [move_has hs]
      split
      · omega
      · split <;> omega
  obtain ⟨x, hx⟩ : ∃ x, x = h.move frm dst amt := ⟨_, rfl⟩
  rw [← hx] at hx0 hx60
  have cM := Lib.hid (move_any h (.slice a l.length cap) frm dst amt · hGood.room rfl)
  rw [← hx] at cM
  have hxr := Lib.hid hx0
  have hT : (x.total != h.total) = false := by rw [hx, move_total]; simp
  have hX := Lib.hid hx
  replace hh60 := Lib.hid hh60
  replace hx60 := Lib.hid hx60
  replace hG := Lib.hid hG
  replace hR := Lib.hid hR
  clear hGood hx0 hx
  go_enter Try.func5, Try.ntmps5
  go_wp2_with (first | go_skip | (refine ld_row 30 _ rfl rfl _ rfl _ _ _ _ hgA Try.underlying30 rfl info30 ?_))
  refine (good_val hG.out a cap _ (hp.alloc _)).mono ?_
  rintro e w1 ⟨rfl, hb1⟩
  have hB1 : Below w.heap.size w w1 := bstep ((Below.refl _ _).alloc (Nat.le_refl _) _) (by simp) hb1
  replace hgA := hkeep hb1 hgA
  clear hb1
  go_wp2_with (first | go_skip | (refine ld_row 30 _ rfl rfl _ rfl _ _ _ _ hgA Try.underlying30 rfl info30 ?_))
  refine (roomy_val hR.out _ _).mono ?_
  rintro e w2 ⟨rfl, hb2⟩
  have hB2 := bstep hB1 hB1.size hb2
  replace hgA := hkeep hb2 hgA
  clear hb2 hB1
  go_wp2_with (first | go_skip | (refine ld_row 30 _ rfl rfl _ rfl _ _ _ _ hgA Try.underlying30 rfl info30 ?_))
  refine (cM.out _).mono ?_
  rintro e w3 ⟨rfl, hb3⟩
  have hB := (bstep hB2 hB2.size hb3).alloc (bstep hB2 hB2.size hb3).size (.cells (hc x (.slice a l.length cap)) 30)
  replace hgA := hold (hkeep hb3 hgA) (.cells (hc x (.slice a l.length cap)) 30)
  have hgX := hnew w3 (.cells (hc x (.slice a l.length cap)) 30)
  clear hb3 hB2
  replace hgA := Lib.hid hgA
  replace hgX := Lib.hid hgX
  go_wp2_with (refine st_new 30 _ _ rfl _ 30 _ rfl rfl rfl (hc x (.slice a l.length cap)) rfl info30 rfl (hc_one _ _ rfl) ?_)
  replace hgA := hgA.out
  replace hgX := hgX.out
  generalize w3.alloc (.cells (hc x (.slice a l.length cap)) 30) = W at *
  generalize hxb : w3.heap.size = xb at *
  clear hxb
  simp only [Act.put]
  refine calm_region (Below W.heap.size W) (by kernel_rfl) (by kernel_rfl) (calm_start _) ?_
  repeat (first | go_big_quiet_skip | (go_big_quiet_want; first | (refine calm_row 30 _ rfl _ rfl _ _ _ _ (calm_heap hgX) Try.underlying30 rfl info30 ?_; simp only [Act.put, List.setIfInBounds_toArray, List.set_cons_succ, List.set_cons_zero]; go_big_quiet_on) | (refine calm_row 30 _ rfl _ rfl _ _ _ _ (calm_heap hgA) Try.underlying30 rfl info30 ?_; simp only [Act.put, List.setIfInBounds_toArray, List.set_cons_succ, List.set_cons_zero]; go_big_quiet_on) | (go_big_quiet_op; first | go_big_quiet_on | go_big_quiet_call (first | (go_at_call 26; exact calm_call (calm_below _) (sum_any _ _ _ (by first | exact hx60.out | exact hh60.out)))))))
  refine wpQuiet_nil ?_
  intro w4 hI
  replace hgA := hkeep hI hgA
  replace hgX := hkeep hI hgX
  replace hB := bstep hB hB.size hI
  clear hI
  go_wp2_with fail
  go_loopg [32] 4 (fun g i wr => ∃ k : Nat, k ≤ 4 ∧ g = 4 - k ∧ i = .int .i64 k ∧ wr.heap[w.heap.size]? = some (.cells (hc h (.slice a l.length cap)) 30 (0, 0)) ∧ wr.heap[xb]? = some (.cells (hc x (.slice a l.length cap)) 30 (0, 0)) ∧ Below w.heap.size w wr)
  case atStart => exact ⟨0, by omega, rfl, rfl, hgA, hgX, hB⟩
  case round =>
    clear hgA hgX hB
    obtain ⟨k, hk, rfl, rfl, hgA, hgX, hB⟩ := hrel
    by_cases h4 : k < 4
    · go_upto_region 9 with fail
      go_cut [53] (fun s53 wx => s53 = .bool false ∧ wx.heap[w.heap.size]? = some (.cells (hc h (.slice a l.length cap)) 30 (0, 0)) ∧ wx.heap[xb]? = some (.cells (hc x (.slice a l.length cap)) 30 (0, 0)) ∧ Below w.heap.size w wx)
      case first =>
        by_cases hkf : (k : Int) = frm
        · have e1 : ((k : Int) != frm) = false := by simpa using hkf
          replace hkf := Lib.hid hkf
          refine calm_region (Below wr.heap.size wr) (by kernel_rfl) (by kernel_rfl) (calm_start _) ?_
          repeat (first | go_big_quiet_skip | (go_big_quiet_want; first | (refine calm_row 30 _ rfl _ rfl _ _ _ _ (calm_heap hgX) Try.underlying30 rfl info30 ?_; simp only [Act.put, List.setIfInBounds_toArray, List.set_cons_succ, List.set_cons_zero]; go_big_quiet_on) | (refine calm_row 30 _ rfl _ rfl _ _ _ _ (calm_heap hgA) Try.underlying30 rfl info30 ?_; simp only [Act.put, List.setIfInBounds_toArray, List.set_cons_succ, List.set_cons_zero]; go_big_quiet_on) | (go_big_quiet_op; first | go_big_quiet_on)))
          refine wpQuiet_nil ?_
          intro w5 hI
          replace hgA := hkeep hI hgA
          replace hgX := hkeep hI hgX
          replace hB := bstep hB hB.size hI
          clear hI
          go_wp2_with fail
          go_meet
          exact ⟨rfl, hgA, hgX, hB⟩
        have e1 : ((k : Int) != frm) = true := by simpa using hkf
        by_cases hkd : (k : Int) = dst
        · have e2 : ((k : Int) != dst) = false := by simpa using hkd
          replace hkd := Lib.hid hkd
          replace hkf := Lib.hid hkf
          refine calm_region (Below wr.heap.size wr) (by kernel_rfl) (by kernel_rfl) (calm_start _) ?_
          repeat (first | go_big_quiet_skip | (go_big_quiet_want; first | (refine calm_row 30 _ rfl _ rfl _ _ _ _ (calm_heap hgX) Try.underlying30 rfl info30 ?_; simp only [Act.put, List.setIfInBounds_toArray, List.set_cons_succ, List.set_cons_zero]; go_big_quiet_on) | (refine calm_row 30 _ rfl _ rfl _ _ _ _ (calm_heap hgA) Try.underlying30 rfl info30 ?_; simp only [Act.put, List.setIfInBounds_toArray, List.set_cons_succ, List.set_cons_zero]; go_big_quiet_on) | (go_big_quiet_op; first | go_big_quiet_on)))
          refine wpQuiet_nil ?_
          intro w5 hI
          replace hgA := hkeep hI hgA
          replace hgX := hkeep hI hgX
          replace hB := bstep hB hB.size hI
          clear hI
          go_wp2_with fail
          go_meet
          exact ⟨rfl, hgA, hgX, hB⟩
        have e2 : ((k : Int) != dst) = true := by simpa using hkd
        have hne : ∀ w, (binOp .neq 24 (.agg #[.int .i64 (x.has k), .int .i64 (x.cr k)]) (.agg #[.int .i64 (h.has k), .int .i64 (h.cr k)])).run Try.prog w = .ok (.bool false) w := by
          have y1 : x.has k = h.has k := by rw [hX.out]; exact move_other h frm dst amt k hkf hkd
          have y2 : x.cr k = h.cr k := by rw [hX.out, move_cr]
          rw [y1, y2]
          exact neq_acc _ _
        replace hkd := Lib.hid hkd
        replace hkf := Lib.hid hkf
        have hcX := calm_cells hgX
        have hcA := calm_cells hgA
        refine calm_region (Below wr.heap.size wr) (by kernel_rfl) (by kernel_rfl) (calm_start _) ?_
        repeat (first | go_big_quiet_skip | (go_big_quiet_want; first | (refine calm_row 30 _ rfl _ rfl _ _ _ _ (calm_heap hgX) Try.underlying30 rfl info30 ?_; simp only [Act.put, List.setIfInBounds_toArray, List.set_cons_succ, List.set_cons_zero]; go_big_quiet_on) | (refine calm_row 30 _ rfl _ rfl _ _ _ _ (calm_heap hgA) Try.underlying30 rfl info30 ?_; simp only [Act.put, List.setIfInBounds_toArray, List.set_cons_succ, List.set_cons_zero]; go_big_quiet_on) | (go_big_quiet_op; first | go_big_quiet_on)))
        refine wpQuiet_nil ?_
        intro w5 hI
        replace hgA := hkeep hI hgA
        replace hgX := hkeep hI hgX
        replace hB := bstep hB hB.size hI
        clear hI
        go_wp2_with fail
        go_meet
        exact ⟨rfl, hgA, hgX, hB⟩
      case rest =>
        clear hgA hgX hB
        obtain ⟨rfl, hgA, hgX, hB⟩ := hcut
        go_wp2_with fail
        go_loopg [54] 4 (fun g i wr => ∃ m : Nat, m ≤ 4 ∧ g = 4 - m ∧ i = .int .i64 m ∧ wr.heap[w.heap.size]? = some (.cells (hc h (.slice a l.length cap)) 30 (0, 0)) ∧ wr.heap[xb]? = some (.cells (hc x (.slice a l.length cap)) 30 (0, 0)) ∧ Below w.heap.size w wr)
        case atStart => exact ⟨0, by omega, rfl, rfl, hgA, hgX, hB⟩
        case round =>
          clear hgA hgX hB
          obtain ⟨m, hm, rfl, rfl, hgA, hgX, hB⟩ := hrel
          by_cases h7 : m < 4
          · have hx1 := hxr.out.sent k m (by omega) (by omega) (by omega) (by omega)
            have hx2 := hxr.out.sent m k (by omega) (by omega) (by omega) (by omega)
            have hne : (x.sent k m - x.sent m k != -(x.sent m k - x.sent k m)) = false := by rw [bne_eq_false_iff_eq]; omega
            go_upto_region 14 with fail
            refine calm_region (Below wr.heap.size wr) (by kernel_rfl) (by kernel_rfl) (calm_start _) ?_
            repeat (first | go_big_quiet_skip | (go_big_quiet_want; first | (refine calm_row 30 _ rfl _ rfl _ _ _ _ (calm_heap hgX) Try.underlying30 rfl info30 ?_; simp only [Act.put, List.setIfInBounds_toArray, List.set_cons_succ, List.set_cons_zero]; go_big_quiet_on) | (go_big_quiet_op; first | go_big_quiet_on | go_big_quiet_call (first | (go_at_call 25; exact calm_call (calm_below _) (net_any x _ _ _ _ (by omega) (by omega) (by omega) (by omega) hxr.out))))))
            refine wpQuiet_nil ?_
            intro w7 hI
            replace hgA := hkeep hI hgA
            replace hgX := hkeep hI hgX
            replace hB := bstep hB hB.size hI
            clear hI
            go_wp2_with fail
            go_roundg (4 - (m + 1))
            case measure => omega
            case rel => exact ⟨m + 1, by omega, rfl, by go_num, hgA, hgX, hB⟩
          · have hd7 : decide ((m : Int) < 4) = false := by simp; omega
            go_wp2_with fail
            go_roundg (4 - (k + 1))
            case measure => omega
            case rel => exact ⟨k + 1, by omega, rfl, by go_num, hgA, hgX, hB⟩
    · have hd4 : decide ((k : Int) < 4) = false := by simp; omega
      cases hM : mayB h frm dst amt
      · replace hM := Lib.hid hM
        go_wp2_with (first | go_skip | (refine ld_row 30 _ rfl rfl _ rfl _ _ _ _ hgA Try.underlying30 rfl info30 ?_))
        refine (may_val hM.out _ _ hr.out).mono ?_
        rintro e w8 ⟨rfl, hb8⟩
        replace hB := bstep hB hB.size hb8
        go_wp2_with fail
        refine (ledgersK_any _).mono ?_
        rintro e w9 ⟨rfl, hb9⟩
        replace hB := bstep hB hB.size hb9
        go_wp2_with fail
        go_ret
        exact ⟨rfl, hB⟩
      · have hM2 := mayB_true hM
        obtain ⟨hs, hle, hlim⟩ := hM2
        have f0 := hs.f0
        have f1 := hs.f1
        have t0 := hs.t0
        have t1 := hs.t1
        have y1 : x.has frm = h.has frm - amt := by rw [hX.out, move_has hs, if_neg hs.ne, if_pos rfl]
        have y2 : x.has dst = h.has dst + amt := by rw [hX.out, move_has hs, if_pos rfl]
        have y3 : x.cr = h.cr := by rw [hX.out, move_cr]
        have y4 : x.lim = h.lim := by rw [hX.out, move_lim]
        have y5 : x.sent frm dst = h.sent frm dst + amt := by rw [hX.out, move_sent hs, if_pos ⟨rfl, rfl⟩]
        have y6 : x.sent dst frm = h.sent dst frm := by rw [hX.out, move_sent hs, if_neg (fun e => hs.ne e.2)]
        have z1 : decide (x.has frm + x.cr frm < 0) = false := by rw [y1, y3]; simp; omega
        have z2 : (x.has dst + x.cr dst != h.has dst + h.cr dst + amt) = false := by rw [y2, y3, bne_eq_false_iff_eq]; omega
        have z3 : 0 ≤ x.lim frm dst → decide (x.lim frm dst < x.sent frm dst - x.sent dst frm) = false := by rw [y4, y5, y6]; intro hl; simp; omega
        have a0 := hs.a0
        have a1 := hs.a1
        have b1 := hh60.out dst t0 t1
        have b2 := hr.out.cr dst t0 t1
        replace hM := Lib.hid hM
        replace z3 := Lib.hid z3
        clear y1 y2 y3 y4 y5 y6 hle hlim hs
        have hcl := cells_at hgX
        go_wp2_with (first | go_skip | (refine ld_row 30 _ rfl rfl _ rfl _ _ _ _ hgA Try.underlying30 rfl info30 ?_))
        refine (may_val hM.out _ _ hr.out).mono ?_
        rintro e w8 ⟨rfl, hb8⟩
        replace hB := bstep hB hB.size hb8
        replace hgA := hkeep hb8 hgA
        replace hgX := hkeep hb8 hgX
        clear hb8 hcl
        have hcl := cells_at hgX
        go_upto_region 20 with fail
        clear hcl
        by_cases hl : 0 ≤ x.lim frm dst
        · have z4 := z3.out hl
          refine calm_region (Below w8.heap.size w8) (by kernel_rfl) (by kernel_rfl) (calm_start _) ?_
          repeat (first | go_big_quiet_skip | (go_big_quiet_want; first | (refine calm_row 30 _ rfl _ rfl _ _ _ _ (calm_heap hgX) Try.underlying30 rfl info30 ?_; simp only [Act.put, List.setIfInBounds_toArray, List.set_cons_succ, List.set_cons_zero]; go_big_quiet_on) | (refine calm_row 30 _ rfl _ rfl _ _ _ _ (calm_heap hgA) Try.underlying30 rfl info30 ?_; simp only [Act.put, List.setIfInBounds_toArray, List.set_cons_succ, List.set_cons_zero]; go_big_quiet_on) | (go_big_quiet_op; first | go_big_quiet_on | go_big_quiet_call (first | (go_at_call 24; exact calm_call (calm_below _) (left_any _ _ _ _ (by omega) (by omega) (by first | exact hxr.out | exact hr.out))) | (go_at_call 25; exact calm_call (calm_below _) (net_any x _ frm dst _ f0 f1 t0 t1 hxr.out))))))
          refine wpQuiet_nil ?_
          intro w7 hI
          replace hB := bstep hB hB.size hI
          go_wp2_with fail
          refine (ledgersK_any _).mono ?_
          rintro e w9 ⟨rfl, hb9⟩
          replace hB := bstep hB hB.size hb9
          go_wp2_with fail
          go_ret
          exact ⟨rfl, hB⟩
        · have z4 : decide (0 ≤ x.lim frm dst) = false := by simpa using hl
          refine calm_region (Below w8.heap.size w8) (by kernel_rfl) (by kernel_rfl) (calm_start _) ?_
          repeat (first | go_big_quiet_skip | (go_big_quiet_want; first | (refine calm_row 30 _ rfl _ rfl _ _ _ _ (calm_heap hgX) Try.underlying30 rfl info30 ?_; simp only [Act.put, List.setIfInBounds_toArray, List.set_cons_succ, List.set_cons_zero]; go_big_quiet_on) | (refine calm_row 30 _ rfl _ rfl _ _ _ _ (calm_heap hgA) Try.underlying30 rfl info30 ?_; simp only [Act.put, List.setIfInBounds_toArray, List.set_cons_succ, List.set_cons_zero]; go_big_quiet_on) | (go_big_quiet_op; first | go_big_quiet_on | go_big_quiet_call (first | (go_at_call 24; exact calm_call (calm_below _) (left_any _ _ _ _ (by omega) (by omega) (by first | exact hxr.out | exact hr.out)))))))
          refine wpQuiet_nil ?_
          intro w7 hI
          replace hB := bstep hB hB.size hI
          go_wp2_with fail
          refine (ledgersK_any _).mono ?_
          rintro e w9 ⟨rfl, hb9⟩
          replace hB := bstep hB hB.size hb9
          go_wp2_with fail
          go_ret
          exact ⟨rfl, hB⟩
theorem ledgerSums_any (h : Hs) (l : List Pay) (a : Option Addr) (cap : Nat) (frm dst amt : Int) (w : World) (hp : PaysAt w a cap l) :
    Calls Try.prog 5 #[.agg (hc h (.slice a l.length cap)), .int .i64 frm, .int .i64 dst, .int .i64 amt] w fun e w' => e = .returned (.bool true) ∧ Below w.heap.size w w' := by
  cases hG : goodB h l
  · exact ledgerSums_no h l a cap frm dst amt w hp (.inl hG)
  cases hR : roomyB h
  · exact ledgerSums_no h l a cap frm dst amt w hp (.inr hR)
  · exact ledgerSums_yes h l a cap frm dst amt w hp hG hR
end Go.Proofs.Ytggfdkkhlokmlaa
