/- The reference's SameHouse, of two houses that are alike. -/
import Derived.Test.YtggfdkkhlokmlaaCopy
import Derived.Deep.LoopGhost
namespace Go.Proofs.Ytggfdkkhlokmlaa
open Go.RowKit

theorem PaysAt.six {w : World} {b off cap : Nat} {l : List Pay} (h : PaysAt w (some ⟨b, off, none⟩) cap l) {i : Nat} {p : Pay} (hp : l[i]? = some p) :
    w.cell? ⟨b, off + i * 6, none⟩ = some (.int .i64 p.frm) ∧ w.cell? ⟨b, off + i * 6 + 1, none⟩ = some (.int .i64 p.to) ∧ w.cell? ⟨b, off + i * 6 + 2, none⟩ = some (.int .i64 p.amt) ∧
    w.cell? ⟨b, off + i * 6 + 3, none⟩ = some (.int .i64 p.cls) ∧ w.cell? ⟨b, off + i * 6 + 4, none⟩ = some (.int .i64 p.st) ∧ w.cell? ⟨b, off + i * 6 + 5, none⟩ = some (.int .i64 p.seq) := by
  have hi := (List.getElem?_eq_some_iff.1 hp).1
  obtain ⟨b', off', e, _, hc⟩ := h.row (by omega)
  cases e
  have h0 := hc i p hp
  exact ⟨h0 0 _ rfl, by rw [Nat.add_assoc]; exact h0 1 _ rfl, by rw [Nat.add_assoc]; exact h0 2 _ rfl, by rw [Nat.add_assoc]; exact h0 3 _ rfl, by rw [Nat.add_assoc]; exact h0 4 _ rfl, by rw [Nat.add_assoc]; exact h0 5 _ rfl⟩
theorem neq_pay6 (x0 x1 x2 x3 x4 x5 : Int) (w : World) : (binOp .neq 36 (.agg #[.int .i64 x0, .int .i64 x1, .int .i64 x2, .int .i64 x3, .int .i64 x4, .int .i64 x5]) (.agg #[.int .i64 x0, .int .i64 x1, .int .i64 x2, .int .i64 x3, .int .i64 x4, .int .i64 x5])).run Try.prog w = .ok (.bool false) w :=
  neq_pay ⟨x0, x1, x2, x3, x4, x5⟩ w
attribute [local go_sem high] neq_accs neq_sents neq_lims neq_pay neq_pay6
attribute [local go_sem] hc_pays hc_next hc_size

set_option maxRecDepth 100000 in
set_option maxHeartbeats 1000000 in
theorem sameHouse_eq (h : Hs) (l : List Pay) (a b : Option Addr) (cap cap' : Nat) (w : World) (ha : PaysAt w a cap l) (hb : PaysAt w b cap' l) :
    Calls Try.prog 18 #[.agg (hc h (.slice a l.length cap)), .agg (hc h (.slice b l.length cap'))] w fun e w' => e = .returned (.bool true) ∧ Below w.heap.size w w' := by
  have hgA := heap_alloc2_old w (.cells (hc h (.slice a l.length cap)) 30) (.cells (hc h (.slice b l.length cap')) 30)
  have hgB := heap_alloc2_new w (.cells (hc h (.slice a l.length cap)) 30) (.cells (hc h (.slice b l.length cap')) 30)
  have hAA := hgA
  have hBB := hgB
  replace hgA := Lib.hid hgA
  replace hgB := Lib.hid hgB
  replace hAA := cells_at hAA
  replace hBB := cells_at hBB
  have hml : l.length ≤ 9223372036854775807 := by have h1 := ha.le; have h2 := ha.capm; unfold maxLen at h2; omega
  go_enter Try.func18, Try.ntmps18
  go_wp2_with (first | go_skip | (refine ld_mid 25 _ rfl rfl _ _ rfl _ _ (accs h) _ _ hgA.out Try.underlying25 rfl info25 (hc_accs h _) ?_) | (refine ld_mid 25 _ rfl rfl _ _ rfl _ _ (accs h) _ _ hgB.out Try.underlying25 rfl info25 (hc_accs h _) ?_) | (refine ld_mid 27 _ rfl rfl _ _ rfl _ _ (sents h) _ _ hgA.out Try.underlying27 rfl info27 (hc_sents h _) ?_) | (refine ld_mid 27 _ rfl rfl _ _ rfl _ _ (sents h) _ _ hgB.out Try.underlying27 rfl info27 (hc_sents h _) ?_) | (refine ld_mid 27 _ rfl rfl _ _ rfl _ _ (lims h) _ _ hgA.out Try.underlying27 rfl info27 (hc_lims h _) ?_) | (refine ld_mid 27 _ rfl rfl _ _ rfl _ _ (lims h) _ _ hgB.out Try.underlying27 rfl info27 (hc_lims h _) ?_))
  clear hAA hBB
  go_loopg [44] l.length (fun g i wr => ∃ k : Nat, k ≤ l.length ∧ g = l.length - k ∧ i = .int .i64 k ∧ wr.heap[w.heap.size]? = some (.cells (hc h (.slice a l.length cap)) 30 (0, 0)) ∧ wr.heap[w.heap.size + 1]? = some (.cells (hc h (.slice b l.length cap')) 30 (0, 0)) ∧ Below w.heap.size w wr)
  case atStart => exact ⟨0, by omega, rfl, rfl, hgA.out, hgB.out, ((Below.refl _ _).alloc (Nat.le_refl _) _).alloc (by simp) _⟩
  case round =>
    clear hgA hgB
    obtain ⟨k, hk, rfl, rfl, hgA, hgB, hbw⟩ := hrel
    by_cases h4 : k < l.length
    · obtain ⟨p, hpk⟩ : ∃ p, l[k]? = some p := ⟨l[k], List.getElem?_eq_getElem h4⟩
      obtain ⟨b1, o1, rfl, _, _⟩ := ha.row (by omega)
      obtain ⟨b2, o2, rfl, _, _⟩ := hb.row (by omega)
      obtain ⟨x0, x1, x2, x3, x4, x5⟩ := (ha.below hbw).six hpk
      obtain ⟨y0, y1, y2, y3, y4, y5⟩ := (hb.below hbw).six hpk
      have hcA := cells_at hgA
      have hcB := cells_at hgB
      clear ha hb hpk
      go_wp2
      go_quiet (fail)
      go_wp2
      go_roundg (l.length - (k + 1))
      case measure => omega
      case rel => exact ⟨k + 1, by omega, rfl, by go_num, hgA, hgB, below_drewN hbw _⟩
    · have hd : decide ((k : Int) < l.length) = false := by simp; omega
      go_wp2
      go_ret
      exact ⟨rfl, hbw⟩
end Go.Proofs.Ytggfdkkhlokmlaa
