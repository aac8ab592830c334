/- The reference's MaySend and MoveSum. -/
import Derived.Test.YtggfdkkhlokmlaaMove
import Derived.Test.YtggfdkkhlokmlaaPayFns
namespace Go.Proofs.Ytggfdkkhlokmlaa
open Go.RowKit
attribute [local go_sem] hc_has hc_cr hc_sent hc_lim hc_pays hc_next hc_size

set_option maxHeartbeats 1000000 in
theorem maySend_no (h : Hs) (s : Value) (frm to amt : Int) (w : World) (hs : sends frm to amt = false) :
    Calls Try.prog 28 #[.agg (hc h s), .int .i64 frm, .int .i64 to, .int .i64 amt] w fun e w' => e = .returned (.bool (mayB h frm to amt)) ∧ Below w.heap.size w w' := by
  have fin : mayB h frm to amt = false := by simp [mayB, hs]
  replace fin := Lib.hid fin
  go_enter Try.func28, Try.ntmps28
  go_wp2
  go_quiet ((go_at_call 65; exact Calls.quiet_of_same ((sendsR_any _ _ _ _).mono (fun _ _ h => ⟨h.1, h.2.symm⟩))))
  go_wp2
  go_ret
  exact ⟨by rw [fin.out]; rfl, below_drewN ((Below.refl _ _).alloc (Nat.le_refl _) _) _⟩

set_option maxHeartbeats 1000000 in
theorem maySend_yes (h : Hs) (s : Value) (frm to amt : Int) (w : World) (hr : h.Room) (hs : Sends frm to amt) :
    Calls Try.prog 28 #[.agg (hc h s), .int .i64 frm, .int .i64 to, .int .i64 amt] w fun e w' => e = .returned (.bool (mayB h frm to amt)) ∧ Below w.heap.size w w' := by
  have fin0 := sends_true.2 hs
  have fin : mayB h frm to amt = (decide (amt ≤ h.has frm + h.cr frm) && (decide (h.lim frm to < 0) || decide (h.sent frm to - h.sent to frm + amt ≤ h.lim frm to))) := by simp [mayB, fin0]
  replace fin := Lib.hid fin
  obtain ⟨f0, f1, t0, t1, ne, a0, a1⟩ := hs
  clear ne
  have r1 := hr.sent frm to f0 f1 t0 t1
  have r2 := hr.sent to frm t0 t1 f0 f1
  have r3 := hr.has frm f0 f1
  have r4 := hr.cr frm f0 f1
  clear hr
  by_cases h5 : h.has frm - amt < - h.cr frm
  · go_enter Try.func28, Try.ntmps28
    go_wp2
    go_quiet ((go_at_call 65; exact Calls.quiet_of_same ((sendsR_any _ _ _ _).mono (fun _ _ h => ⟨h.1, h.2.symm⟩))))
    go_wp2
    go_ret
    exact ⟨by rw [fin.out]; simp; omega, below_drewN ((Below.refl _ _).alloc (Nat.le_refl _) _) _⟩
  · have hd : decide (h.has frm - amt < - h.cr frm) = false := by simpa using h5
    by_cases h6 : h.lim frm to ≤ -1
    · go_enter Try.func28, Try.ntmps28
      go_wp2
      go_quiet ((go_at_call 65; exact Calls.quiet_of_same ((sendsR_any _ _ _ _).mono (fun _ _ h => ⟨h.1, h.2.symm⟩))))
      go_wp2
      go_quiet (fail)
      go_wp2
      go_ret
      exact ⟨by rw [fin.out]; simp; omega, below_drewN (below_drewN ((Below.refl _ _).alloc (Nat.le_refl _) _) _) _⟩
    · have hd2 : decide (h.lim frm to ≤ -1) = false := by simpa using h6
      go_enter Try.func28, Try.ntmps28
      go_wp2
      go_quiet ((go_at_call 65; exact Calls.quiet_of_same ((sendsR_any _ _ _ _).mono (fun _ _ h => ⟨h.1, h.2.symm⟩))))
      go_wp2
      go_quiet (fail)
      go_wp2
      go_ret
      have x1 : decide (amt ≤ h.has frm + h.cr frm) = true := by simp; omega
      have x2 : decide (h.lim frm to < 0) = false := by simp; omega
      exact ⟨by rw [fin.out, x1, x2]; rfl, below_drewN (below_drewN ((Below.refl _ _).alloc (Nat.le_refl _) _) _) _⟩

theorem maySend_any (h : Hs) (s : Value) (frm to amt : Int) (w : World) (hr : h.Room) :
    Calls Try.prog 28 #[.agg (hc h s), .int .i64 frm, .int .i64 to, .int .i64 amt] w fun e w' => e = .returned (.bool (mayB h frm to amt)) ∧ Below w.heap.size w w' := by
  cases hs : sends frm to amt
  · exact maySend_no h s frm to amt w hs
  · exact maySend_yes h s frm to amt w hr (sends_true.1 hs)
theorem move_any (h : Hs) (s : Value) (frm to amt : Int) (w : World) (hr : h.Room) (h1 : s.oneCell' = true) :
    Calls Try.prog 29 #[.agg (hc h s), .int .i64 frm, .int .i64 to, .int .i64 amt] w fun e w' => e = .returned (.agg (hc (h.move frm to amt) s)) ∧ Below w.heap.size w w' := by
  cases hs : sends frm to amt
  · have e : h.move frm to amt = h := by simp [Hs.move, hs]
    rw [e]
    exact move_no h s frm to amt w hs h1
  · exact move_yes h s frm to amt w hr (sends_true.1 hs) h1

/-- The reference's move, bank by bank: the first k banks have their new money. -/
def Hs.moveTo (h : Hs) (frm to amt : Int) (k : Nat) : Hs := { h.setSent frm to (h.sent frm to + amt) with has := fun j => if j < k then (if j = frm then h.has j - amt else if j = to then h.has j + amt else h.has j) else h.has j }
theorem hc_ext {h g : Hs} (h1 : ∀ i, 0 ≤ i → i < 4 → h.has i = g.has i) (h2 : ∀ i, 0 ≤ i → i < 4 → h.cr i = g.cr i) (h3 : ∀ i k, 0 ≤ i → i < 4 → 0 ≤ k → k < 4 → h.sent i k = g.sent i k)
    (h4 : ∀ i k, 0 ≤ i → i < 4 → 0 ≤ k → k < 4 → h.lim i k = g.lim i k) (h5 : h.next = g.next) (s : Value) : hc h s = hc g s := by
  unfold hc
  rw [h1 0, h1 1, h1 2, h1 3, h2 0, h2 1, h2 2, h2 3, h5]
  rw [h3 0 0, h3 0 1, h3 0 2, h3 0 3, h3 1 0, h3 1 1, h3 1 2, h3 1 3, h3 2 0, h3 2 1, h3 2 2, h3 2 3, h3 3 0, h3 3 1, h3 3 2, h3 3 3]
  rw [h4 0 0, h4 0 1, h4 0 2, h4 0 3, h4 1 0, h4 1 1, h4 1 2, h4 1 3, h4 2 0, h4 2 1, h4 2 2, h4 2 3, h4 3 0, h4 3 1, h4 3 2, h4 3 3]
  all_goals omega
theorem frozen_at {w : World} {b : Nat} {cs : Array Value} {t : TypeId} (h : w.heap[b]? = some (.cells cs t (0, 0))) : ∀ o : Nat, w.frozen? ⟨b, o, none⟩ = false := fun o => by
  simp [World.frozen?, h]
theorem hcell_set {w : World} {g i : Nat} {cs : Array Value} {t : TypeId} (hg : w.heap[g]? = some (.cells cs t (0, 0))) (v : Value) : (w.setCell ⟨g, i, none⟩ v).heap[g]? = some (.cells (cs.setIfInBounds i v) t (0, 0)) :=
  heap_setCell_same w g i cs t v hg
end Go.Proofs.Ytggfdkkhlokmlaa
