/- The reference's MoveSum. -/
import Derived.Test.YtggfdkkhlokmlaaLedger2
namespace Go.Proofs.Ytggfdkkhlokmlaa
open Go.RowKit

theorem hc_setHasN (h : Hs) (s : Value) (i : Nat) (v : Int) (h1 : i < 4) : (hc h s).setIfInBounds (i * 2) (.int .i64 v) = hc (h.setHas i v) s := hc_setHas h s i v (by omega) (by omega)
theorem moveTo_has (h : Hs) (frm to amt : Int) (k : Nat) : (h.moveTo frm to amt k).has (k : Int) = h.has k := by simp [Hs.moveTo]
theorem moveTo_start (h : Hs) (frm to amt : Int) (s : Value) : hc (h.setSent frm to (h.sent frm to + amt)) s = hc (h.moveTo frm to amt 0) s := by
  apply hc_ext
  · intro i h0 h1
    have : ¬ i < 0 := by omega
    simp [Hs.moveTo, Hs.setSent, this]
  · intros; rfl
  · intros; rfl
  · intros; rfl
  · rfl
theorem moveTo_frm (h : Hs) (frm to amt : Int) (s : Value) (k : Nat) (e : (k : Int) = frm) : hc ((h.moveTo frm to amt k).setHas k (h.has k - amt)) s = hc (h.moveTo frm to amt (k + 1)) s := by
  apply hc_ext
  · intro i h0 h1
    simp only [Hs.moveTo, Hs.setHas]
    by_cases h2 : i = k
    · subst h2; simp [e]; omega
    · have e3 : (i < (k : Int)) = (i < ((k + 1 : Nat) : Int)) := by apply propext; omega
      simp [h2, e3]
  · intros; rfl
  · intros; rfl
  · intros; rfl
  · rfl
theorem moveTo_to (h : Hs) (frm to amt : Int) (s : Value) (k : Nat) (e : (k : Int) = to) (hne : (k : Int) ≠ frm) : hc ((h.moveTo frm to amt k).setHas k (h.has k + amt)) s = hc (h.moveTo frm to amt (k + 1)) s := by
  apply hc_ext
  · intro i h0 h1
    simp only [Hs.moveTo, Hs.setHas]
    by_cases h2 : i = k
    · subst h2
      have e3 : ¬ (to = frm) := by omega
      rw [if_pos rfl, if_pos (by omega), if_neg hne, if_pos e]
    · have e3 : (i < (k : Int)) = (i < ((k + 1 : Nat) : Int)) := by apply propext; omega
      simp [h2, e3]
  · intros; rfl
  · intros; rfl
  · intros; rfl
  · rfl
theorem moveTo_none (h : Hs) (frm to amt : Int) (s : Value) (k : Nat) (e : (k : Int) ≠ to) (hne : (k : Int) ≠ frm) : hc (h.moveTo frm to amt k) s = hc (h.moveTo frm to amt (k + 1)) s := by
  apply hc_ext
  · intro i h0 h1
    simp only [Hs.moveTo]
    by_cases h2 : i = k
    · subst h2
      rw [if_neg (by omega), if_pos (by omega), if_neg hne, if_neg e]
    · have e3 : (i < (k : Int)) = (i < ((k + 1 : Nat) : Int)) := by apply propext; omega
      simp [e3]
  · intros; rfl
  · intros; rfl
  · intros; rfl
  · rfl
theorem moveTo_end (h : Hs) (frm to amt : Int) (s : Value) (hs : Sends frm to amt) : hc (h.moveTo frm to amt 4) s = hc (h.move frm to amt) s := by
  have fin : h.move frm to amt = ((h.setHas frm (h.has frm - amt)).setHas to (h.has to + amt)).setSent frm to (h.sent frm to + amt) := by simp [Hs.move, sends_true.2 hs]
  rw [fin]
  have hne := hs.ne
  apply hc_ext
  · intro i h0 h1
    have : i < ((4 : Nat) : Int) := by omega
    simp only [Hs.moveTo, Hs.setHas, Hs.setSent, this, if_true]
    by_cases h2 : i = frm
    · subst h2; simp [hne]
    · by_cases h3 : i = to
      · subst h3; simp [Ne.symm hne]
      · simp [h2, h3]
  · intros; rfl
  · intros; rfl
  · intros; rfl
  · rfl
attribute [local go_sem] hc_has hc_cr hc_sent hc_lim hc_pays hc_next hc_size hc_setHas hc_setSent moveTo_has
attribute [local go_sem low] hc_hasN hc_crN hc_sentN hc_limN

set_option maxHeartbeats 1000000 in
theorem moveSum_no (h : Hs) (s : Value) (frm to amt : Int) (w : World) (hs : sends frm to amt = false) (h1 : s.oneCell' = true) :
    Calls Try.prog 30 #[.agg (hc h s), .int .i64 frm, .int .i64 to, .int .i64 amt] w fun e w' => e = .returned (.agg (hc (h.move frm to amt) s)) ∧ Below w.heap.size w w' := by
  have fin : h.move frm to amt = h := by simp [Hs.move, hs]
  rw [fin]
  clear fin
  go_enter Try.func30, Try.ntmps30
  go_wp2_with (first | go_skip | (go_at_call 65; refine (sendsR_any _ _ _ _).mono ?_; rintro e w' ⟨rfl, rfl⟩) | (refine ld_row 30 _ rfl rfl _ rfl _ _ _ _ (heap_alloc2_old _ _ _) Try.underlying30 rfl info30 ?_) | (refine st_row 30 _ _ rfl rfl _ rfl _ rfl _ _ (heap_alloc2_new _ _ _) info30 rfl (hc_one _ _ h1) ?_; intro w' hr hgr hsz))
  refine bodyPost_ret (results_house rfl _ _ _ _ _ rfl hr) rfl ⟨rfl, ?_⟩
  exact (((Below.refl _ _).alloc (Nat.le_refl _) _).alloc (by simp) _).grown hgr (by simp; omega) (fun k hk => by cases hk; omega)

set_option maxHeartbeats 1000000 in
theorem moveSum_yes (h : Hs) (s : Value) (frm to amt : Int) (w : World) (hr : h.Room) (hs : Sends frm to amt) (h1 : s.oneCell' = true) :
    Calls Try.prog 30 #[.agg (hc h s), .int .i64 frm, .int .i64 to, .int .i64 amt] w fun e w' => e = .returned (.agg (hc (h.move frm to amt) s)) ∧ Below w.heap.size w w' := by
  have fin := Lib.hid (moveTo_end h frm to amt s hs)
  have es := sends_true.2 hs
  obtain ⟨f0, f1, t0, t1, ne, a0, a1⟩ := hs
  have hne := Lib.hid ne
  clear ne
  have rh := hr.has
  have r2 := hr.sent frm to f0 f1 t0 t1
  clear hr
  go_enter Try.func30, Try.ntmps30
  go_wp2_with (go_at_call 65; refine (sendsR_any _ _ _ _).mono ?_; rintro e w' ⟨rfl, rfl⟩)
  go_region
  go_wp2
  go_loopw [25] (fun i wr => ∃ k : Nat, k ≤ 4 ∧ i = .int .i64 k ∧ wr.heap[w.heap.size]? = some (.cells (hc (h.moveTo frm to amt k) s) 30 (0, 0)) ∧ (∃ z : Array Value, z.size = 42 ∧ wr.heap[w.heap.size + 1]? = some (.cells z 30 (0, 0))) ∧ Below w.heap.size w wr) (fun i _ => (4 - intOf i).toNat)
  case atStart =>
    refine ⟨0, by omega, rfl, ?_, ⟨_, rfl, heap_alloc2_new _ _ _⟩, (((Below.refl _ _).alloc (Nat.le_refl _) _).alloc (by simp) _).drew⟩
    rw [← moveTo_start]
    exact heap_alloc2_old _ _ _
  case round =>
    obtain ⟨k, hk, rfl, hg, ⟨z, hz, hg2⟩, hb⟩ := hrel
    have hcl := cells_at hg
    have hfr := frozen_at hg
    have hsz := hb.size
    have hg2' := hlt hg2
    by_cases h4 : k < 4
    · have rk := rh k (by omega) (by omega)
      clear rh
      by_cases hf : (k : Int) = frm
      · have x1 : ((k : Int) == frm) = true := by simpa using hf
        have x2 : ((k : Int) == to) = false := by have := hne.out; simp; omega
        replace hf := Lib.hid hf
        go_wp2
        go_roundw
        case rel =>
          refine ⟨k + 1, by omega, by go_num, ?_, ⟨z, hz, ?_⟩, hb.setCell (Nat.le_refl _) _⟩
          · rw [← moveTo_frm h frm to amt s k hf.out, ← hc_setHasN _ _ _ _ h4]
            exact hcell_set hg _
          · rw [heap_setCell_other _ _ _ _ (by simp)]
            exact hg2
        case measure => simp [intOf]; omega
      · have x1 : ((k : Int) == frm) = false := by simpa using hf
        replace hf := Lib.hid hf
        by_cases ht : (k : Int) = to
        · have x2 : ((k : Int) == to) = true := by simpa using ht
          replace ht := Lib.hid ht
          go_wp2
          go_roundw
          case rel =>
            refine ⟨k + 1, by omega, by go_num, ?_, ⟨z, hz, ?_⟩, hb.setCell (Nat.le_refl _) _⟩
            · rw [← moveTo_to h frm to amt s k ht.out hf.out, ← hc_setHasN _ _ _ _ h4]
              exact hcell_set hg _
            · rw [heap_setCell_other _ _ _ _ (by simp)]
              exact hg2
          case measure => simp [intOf]; omega
        · have x2 : ((k : Int) == to) = false := by simpa using ht
          replace ht := Lib.hid ht
          go_wp2
          go_roundw
          case rel =>
            refine ⟨k + 1, by omega, by go_num, ?_, ⟨z, hz, hg2⟩, hb⟩
            rw [← moveTo_none h frm to amt s k ht.out hf.out]
            exact hg
          case measure => simp [intOf]; omega
    · obtain rfl : k = 4 := by omega
      clear rh
      rw [fin.out] at hg
      go_wp2_with (first | go_skip | (refine ld_row 30 _ rfl rfl _ rfl _ _ _ _ hg Try.underlying30 rfl info30 ?_) | (refine st_row 30 _ _ rfl rfl _ rfl _ rfl _ _ hg2 info30 hz (hc_one _ _ h1) ?_; intro w' hr hgr hsz'))
      refine bodyPost_ret (results_house rfl _ _ _ _ _ rfl hr) rfl ⟨rfl, ?_⟩
      exact hb.grown hgr hsz (fun k hk => by cases hk; omega)
theorem moveSum_any (h : Hs) (s : Value) (frm to amt : Int) (w : World) (hr : h.Room) (h1 : s.oneCell' = true) :
    Calls Try.prog 30 #[.agg (hc h s), .int .i64 frm, .int .i64 to, .int .i64 amt] w fun e w' => e = .returned (.agg (hc (h.move frm to amt) s)) ∧ Below w.heap.size w w' := by
  cases hs : sends frm to amt
  · exact moveSum_no h s frm to amt w hs h1
  · exact moveSum_yes h s frm to amt w hr (sends_true.1 hs) h1
end Go.Proofs.Ytggfdkkhlokmlaa
