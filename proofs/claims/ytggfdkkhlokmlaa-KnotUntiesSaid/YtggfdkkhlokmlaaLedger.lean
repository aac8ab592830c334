/- What the functions of package ledger and their mirrors in the reference compute (numbers and one house; no payments are read). -/
import Derived.Test.YtggfdkkhlokmlaaHouse
import Derived.Test.YtggfdkkhlokmlaaChecked
import Derived.Deep.QuietTactic
import Derived.BigQuiet
namespace Go.Proofs.Ytggfdkkhlokmlaa
open Go.RowKit
attribute [local go_sem] hc_has hc_cr hc_sent hc_lim hc_pays hc_next hc_size

theorem info30 : (Try.prog.info? 30).map (·.size) = some 42 := by kernel_rfl
theorem info36 : (Try.prog.info? 36).map (·.size) = some 6 := by kernel_rfl
theorem info25 : (Try.prog.info? 25).map (·.size) = some 8 := by kernel_rfl
theorem info24 : (Try.prog.info? 24).map (·.size) = some 2 := by kernel_rfl
theorem info27 : (Try.prog.info? 27).map (·.size) = some 16 := by kernel_rfl

set_option maxHeartbeats 400000 in
theorem small_any (n lo hi : Int) (w : World) : Calls Try.prog 63 #[.int .i64 n, .int .i64 lo, .int .i64 hi] w fun e w' => e = .returned (.bool (sm lo n hi)) ∧ w = w' := by
  go_enter Try.func63, Try.ntmps63
  by_cases h1 : lo ≤ n
  · go_wp2
    go_ret
    exact ⟨by simp [sm, h1], rfl⟩
  · go_wp2
    go_ret
    exact ⟨by simp [sm]; omega, rfl⟩
set_option maxHeartbeats 400000 in
theorem within_any (n lo hi : Int) (w : World) : Calls Try.prog 64 #[.int .i64 n, .int .i64 lo, .int .i64 hi] w fun e w' => e = .returned (.bool (sm lo n hi)) ∧ w = w' := by
  go_enter Try.func64, Try.ntmps64
  by_cases h1 : lo ≤ n
  · go_wp2
    go_ret
    exact ⟨by simp [sm, h1], rfl⟩
  · go_wp2
    go_ret
    exact ⟨by simp [sm]; omega, rfl⟩

/-- Bounds under which no sum of a house leaves 64 bits. -/
structure Hs.Room (h : Hs) : Prop where
  has : ∀ i, 0 ≤ i → i < 4 → -4611686018427387904 ≤ h.has i ∧ h.has i ≤ 4611686018427387904
  cr : ∀ i, 0 ≤ i → i < 4 → 0 ≤ h.cr i ∧ h.cr i ≤ 1000000
  sent : ∀ i k, 0 ≤ i → i < 4 → 0 ≤ k → k < 4 → 0 ≤ h.sent i k ∧ h.sent i k ≤ 4611686018427386904

set_option maxHeartbeats 400000 in
theorem left_any (h : Hs) (s : Value) (i : Int) (w : World) (h0 : 0 ≤ i) (h1 : i < 4) (hr : h.Room) :
    Calls Try.prog 24 #[.agg (hc h s), .int .i64 i] w fun e w' => e = .returned (.int .i64 (h.has i + h.cr i)) ∧ Below w.heap.size w w' := by
  have hb := hr.has i h0 h1
  have hb' := hr.cr i h0 h1
  clear hr
  go_enter Try.func24, Try.ntmps24
  go_wp2
  go_quiet (fail)
  go_wp2
  go_ret
  exact ⟨rfl, below_drewN ((Below.refl _ _).alloc (Nat.le_refl _) _) _⟩

set_option maxHeartbeats 400000 in
theorem net_any (h : Hs) (s : Value) (i k : Int) (w : World) (h0 : 0 ≤ i) (h1 : i < 4) (k0 : 0 ≤ k) (k1 : k < 4) (hr : h.Room) :
    Calls Try.prog 25 #[.agg (hc h s), .int .i64 i, .int .i64 k] w fun e w' => e = .returned (.int .i64 (h.sent i k - h.sent k i)) ∧ Below w.heap.size w w' := by
  have hb := hr.sent i k h0 h1 k0 k1
  have hb' := hr.sent k i k0 k1 h0 h1
  clear hr
  go_enter Try.func25, Try.ntmps25
  go_wp2
  go_quiet (fail)
  go_wp2
  go_ret
  exact ⟨rfl, below_drewN ((Below.refl _ _).alloc (Nat.le_refl _) _) _⟩

/-- Are from, to and amount such that a sum may be sent at all? -/
def sends (frm to amt : Int) : Bool := sm 0 frm 3 && sm 0 to 3 && !(frm == to) && sm 1 amt 1000000
/-- May the sum be sent now? -/
def mayB (h : Hs) (frm to amt : Int) : Bool := sends frm to amt && (decide (amt ≤ h.has frm + h.cr frm) && (decide (h.lim frm to < 0) || decide (h.sent frm to - h.sent to frm + amt ≤ h.lim frm to)))

/-- Below, step by step: a call's own world. -/
theorem bstep {B : Nat} {a w w1 : World} (h : Below B a w) (hB : B ≤ w.heap.size) (h1 : Below w.heap.size w w1) : Below B a w1 := h.trans (h1.mono hB)

set_option maxHeartbeats 1000000 in
theorem may_no (h : Hs) (s : Value) (frm to amt : Int) (w : World) (hs : sends frm to amt = false) :
    Calls Try.prog 27 #[.agg (hc h s), .int .i64 frm, .int .i64 to, .int .i64 amt] w fun e w' => e = .returned (.bool (mayB h frm to amt)) ∧ Below w.heap.size w w' := by
  have fin : mayB h frm to amt = false := by simp [mayB, hs]
  replace fin := Lib.hid fin
  cases e1 : sm 0 frm 3
  · clear hs
    go_enter Try.func27, Try.ntmps27
    go_wp2_with (go_at_call 63; refine (small_any _ _ _ _).mono ?_; rintro e w' ⟨rfl, rfl⟩)
    go_ret
    exact ⟨by rw [fin.out]; rfl, (Below.refl _ _).alloc (Nat.le_refl _) _⟩
  cases e2 : sm 0 to 3
  · clear hs
    go_enter Try.func27, Try.ntmps27
    go_wp2_with (go_at_call 63; refine (small_any _ _ _ _).mono ?_; rintro e w' ⟨rfl, rfl⟩)
    go_ret
    exact ⟨by rw [fin.out]; rfl, (Below.refl _ _).alloc (Nat.le_refl _) _⟩
  cases e3 : frm == to
  · cases e4 : sm 1 amt 1000000
    · clear hs
      go_enter Try.func27, Try.ntmps27
      go_wp2_with (go_at_call 63; refine (small_any _ _ _ _).mono ?_; rintro e w' ⟨rfl, rfl⟩)
      go_ret
      exact ⟨by rw [fin.out]; rfl, (Below.refl _ _).alloc (Nat.le_refl _) _⟩
    · simp [sends, e1, e2, e3, e4] at hs
  · clear hs
    go_enter Try.func27, Try.ntmps27
    go_wp2_with (go_at_call 63; refine (small_any _ _ _ _).mono ?_; rintro e w' ⟨rfl, rfl⟩)
    go_ret
    exact ⟨by rw [fin.out]; rfl, (Below.refl _ _).alloc (Nat.le_refl _) _⟩

structure Sends (frm to amt : Int) : Prop where
  f0 : 0 ≤ frm
  f1 : frm < 4
  t0 : 0 ≤ to
  t1 : to < 4
  ne : frm ≠ to
  a0 : 1 ≤ amt
  a1 : amt ≤ 1000000
theorem sends_true {frm to amt : Int} : sends frm to amt = true ↔ Sends frm to amt := by
  unfold sends
  constructor
  · intro h
    simp only [Bool.and_eq_true, Bool.not_eq_true', beq_eq_false_iff_ne] at h
    obtain ⟨⟨⟨h1, h2⟩, h3⟩, h4⟩ := h
    have h1 := sm_true h1; have h2 := sm_true h2; have h4 := sm_true h4
    exact ⟨by omega, by omega, by omega, by omega, h3, by omega, by omega⟩
  · intro h
    simp only [Bool.and_eq_true, Bool.not_eq_true', beq_eq_false_iff_ne]
    exact ⟨⟨⟨sm_yes ⟨h.f0, by have := h.f1; omega⟩, sm_yes ⟨h.t0, by have := h.t1; omega⟩⟩, h.ne⟩, sm_yes ⟨h.a0, h.a1⟩⟩

set_option maxHeartbeats 1000000 in
theorem may_yes (h : Hs) (s : Value) (frm to amt : Int) (w : World) (hr : h.Room) (hs : Sends frm to amt) :
    Calls Try.prog 27 #[.agg (hc h s), .int .i64 frm, .int .i64 to, .int .i64 amt] w fun e w' => e = .returned (.bool (mayB h frm to amt)) ∧ Below w.heap.size w w' := by
  have fin0 := sends_true.2 hs
  have fin : mayB h frm to amt = (decide (amt ≤ h.has frm + h.cr frm) && (decide (h.lim frm to < 0) || decide (h.sent frm to - h.sent to frm + amt ≤ h.lim frm to))) := by simp [mayB, fin0]
  clear fin0
  replace fin := Lib.hid fin
  obtain ⟨f0, f1, t0, t1, ne, a0, a1⟩ := hs
  have e1 : sm 0 frm 3 = true := sm_yes (by omega)
  have e2 : sm 0 to 3 = true := sm_yes (by omega)
  have e3 : (frm == to) = false := by simpa using ne
  have e4 : sm 1 amt 1000000 = true := sm_yes ⟨a0, a1⟩
  clear ne
  have hg := hnew w (.cells (hc h s) 30)
  have cL := fun w => left_any h s frm w f0 f1 hr
  have cN := fun w => net_any h s frm to w f0 f1 t0 t1 hr
  have r1 := hr.sent frm to f0 f1 t0 t1
  have r2 := hr.sent to frm t0 t1 f0 f1
  replace cL := Lib.hid cL
  replace cN := Lib.hid cN
  clear hr
  by_cases h5 : amt ≤ h.has frm + h.cr frm
  · by_cases h6 : h.lim frm to < 0
    · go_enter Try.func27, Try.ntmps27
      go_wp2_with (first | go_skip | (go_at_call 63; refine (small_any _ _ _ _).mono ?_; rintro e w' ⟨rfl, rfl⟩) | (go_at_call 24; refine (cL.out _).mono ?_; rintro e w1 ⟨rfl, hb1⟩) | (refine ld_row 30 _ rfl rfl _ rfl _ _ _ _ hg Try.underlying30 rfl info30 ?_))
      go_ret
      exact ⟨by rw [fin.out]; simp [h5, h6], bstep ((Below.refl _ _).alloc (Nat.le_refl _) _) (by simp) hb1⟩
    · have hd : decide (h.lim frm to < 0) = false := by simpa using h6
      go_enter Try.func27, Try.ntmps27
      go_wp2_with (first | go_skip | (go_at_call 63; refine (small_any _ _ _ _).mono ?_; rintro e w' ⟨rfl, rfl⟩) | (go_at_call 24; refine (cL.out _).mono ?_; rintro e w1 ⟨rfl, hb1⟩; replace hg := hkeep hb1 hg) | (go_at_call 25; refine (cN.out _).mono ?_; rintro e w2 ⟨rfl, hb2⟩) | (refine ld_row 30 _ rfl rfl _ rfl _ _ _ _ hg Try.underlying30 rfl info30 ?_))
      go_ret
      exact ⟨by rw [fin.out]; simp [h5]; omega, bstep (bstep ((Below.refl _ _).alloc (Nat.le_refl _) _) (by simp) hb1) (by have := hb1.size; simp at this; omega) hb2⟩
  · have hd : decide (amt ≤ h.has frm + h.cr frm) = false := by simpa using h5
    go_enter Try.func27, Try.ntmps27
    go_wp2_with (first | go_skip | (go_at_call 63; refine (small_any _ _ _ _).mono ?_; rintro e w' ⟨rfl, rfl⟩) | (go_at_call 24; refine (cL.out _).mono ?_; rintro e w1 ⟨rfl, hb1⟩) | (refine ld_row 30 _ rfl rfl _ rfl _ _ _ _ hg Try.underlying30 rfl info30 ?_))
    go_ret
    exact ⟨by rw [fin.out]; simp; omega, bstep ((Below.refl _ _).alloc (Nat.le_refl _) _) (by simp) hb1⟩

theorem may_any (h : Hs) (s : Value) (frm to amt : Int) (w : World) (hr : h.Room) :
    Calls Try.prog 27 #[.agg (hc h s), .int .i64 frm, .int .i64 to, .int .i64 amt] w fun e w' => e = .returned (.bool (mayB h frm to amt)) ∧ Below w.heap.size w w' := by
  cases hs : sends frm to amt
  · exact may_no h s frm to amt w hs
  · exact may_yes h s frm to amt w hr (sends_true.1 hs)
end Go.Proofs.Ytggfdkkhlokmlaa
