/- What is alike, for the statements of the whole. -/
import Derived.Deep.QuietTactic
import Derived.Test.YtggfdkkhlokmlabBankFns
import Derived.Test.YtggfdkkhlokmlabCMem
import Derived.Test.YtggfdkkhlokmlabCSel
import Derived.Test.YtggfdkkhlokmlabPlay
namespace Go.Proofs.Ytggfdkkhlokmlab
open Go.RowKit
attribute [local go_sem high] neq_accs neq_sents neq_lims neq_pay neq_pay6
attribute [local go_sem] hc_pays hc_next hc_size
set_option maxRecDepth 100000 in
set_option maxHeartbeats 1000000 in
theorem topSameHouse_eq (h : Hs) (l : List Pay) (a b : Option Addr) (cap cap' : Nat) (w : World) (ha : PaysAt w a cap l) (hb : PaysAt w b cap' l) :
  Calls Try.prog 40 #[.agg (hc h (.slice a l.length cap)), .agg (hc h (.slice b l.length cap'))] w fun e w' => e = .returned (.bool true) ∧ Below w.heap.size w w' := by
 have hgA := heap_alloc2_old w (.cells (hc h (.slice a l.length cap)) 29) (.cells (hc h (.slice b l.length cap')) 29)
 have hgB := heap_alloc2_new w (.cells (hc h (.slice a l.length cap)) 29) (.cells (hc h (.slice b l.length cap')) 29)
 have hAA := hgA
 have hBB := hgB
 replace hgA := Lib.hid hgA
 replace hgB := Lib.hid hgB
 replace hAA := cells_at hAA
 replace hBB := cells_at hBB
 have hml : l.length ≤ 9223372036854775807 := by have h1 := ha.le; have h2 := ha.capm; unfold maxLen at h2; omega
 go_enter Try.func40, Try.ntmps40
 go_wp2_with (first | go_skip | (refine ld_mid 24 _ rfl rfl _ _ rfl _ _ (accs h) _ _ hgA.out Try.underlying24 rfl info25 (hc_accs h _) ?_) | (refine ld_mid 24 _ rfl rfl _ _ rfl _ _ (accs h) _ _ hgB.out Try.underlying24 rfl info25 (hc_accs h _) ?_) | (refine ld_mid 26 _ rfl rfl _ _ rfl _ _ (sents h) _ _ hgA.out Try.underlying26 rfl info27 (hc_sents h _) ?_) | (refine ld_mid 26 _ rfl rfl _ _ rfl _ _ (sents h) _ _ hgB.out Try.underlying26 rfl info27 (hc_sents h _) ?_) | (refine ld_mid 26 _ rfl rfl _ _ rfl _ _ (lims h) _ _ hgA.out Try.underlying26 rfl info27 (hc_lims h _) ?_) | (refine ld_mid 26 _ rfl rfl _ _ rfl _ _ (lims h) _ _ hgB.out Try.underlying26 rfl info27 (hc_lims h _) ?_))
 clear hAA hBB
 go_loopg [44] l.length (fun g i wr => ∃ k : Nat, k ≤ l.length ∧ g = l.length - k ∧ i = .int .i64 k ∧ wr.heap[w.heap.size]? = some (.cells (hc h (.slice a l.length cap)) 29 (0, 0)) ∧ wr.heap[w.heap.size + 1]? = some (.cells (hc h (.slice b l.length cap')) 29 (0, 0)) ∧ Below w.heap.size w wr)
 case atStart => exact ⟨0, by omega, rfl, rfl, hgA.out, hgB.out, ((Below.refl _ _).alloc (Nat.le_refl _) _).alloc (by simp) _⟩
 case round =>
  clear hgA hgB
  obtain ⟨k, hk, rfl, rfl, hgA, hgB, hbw⟩ := hrel
  by_cases h4 : k < l.length
  ·obtain ⟨p, hpk⟩ : ∃ p, l[k]? = some p := ⟨l[k], List.getElem?_eq_getElem h4⟩
   obtain ⟨b1, o1, rfl, _, _⟩ := ha.row (by omega)
   obtain ⟨b2, o2, rfl, _, _⟩ := hb.row (by omega)
   obtain ⟨x0, x1, x2, x3, x4, x5⟩ := (ha.below hbw).six hpk
   obtain ⟨y0, y1, y2, y3, y4, y5⟩ := (hb.below hbw).six hpk
   have hcA := cells_at hgA
   have hcB := cells_at hgB
   clear ha hb hpk
   go_wp2
   go_quiet (fail)
   go_wp2
   go_roundg (l.length - (k + 1))
   case measure => omega
   case rel => exact ⟨k + 1, by omega, rfl, by go_num, hgA, hgB, below_drewN hbw _⟩
  ·have hd : decide ((k : Int) < l.length) = false := by simp; omega
   go_wp2
   go_ret
   exact ⟨rfl, hbw⟩
theorem eqlA (h : Hs) (w : World) : (binOp .eql 24 (.agg (accs h)) (.agg (accs h))).run Try.prog w = .ok (.bool true) w := by
 rw [run_eql_struct, eqA 9997]; rfl
theorem eqlS (h : Hs) (w : World) : (binOp .eql 26 (.agg (sents h)) (.agg (sents h))).run Try.prog w = .ok (.bool true) w := by
 rw [run_eql_struct, eq44 9997 _ (sents_ints h)]; rfl
theorem infoS : (Try.prog.info? 26).map (·.size) = some 16 := by kernel_rfl
set_option maxRecDepth 100000 in
theorem quiet_any (p : Option Addr) (d : Deed) (c n : Int) (v : Value) (w : World) : Calls Try.prog 41 #[.pointer p, .agg (dc d), .agg (rc c n v)] w fun e w' => e = .returned (.bool true) ∧ Below w.heap.size w w' := by
 go_enter Try.func41, Try.ntmps41
 go_wp2_with fail
 go_ret
 exact ⟨rfl, ((Below.refl w.heap.size w).alloc (Nat.le_refl _) _).alloc (by simp) _⟩
theorem lt_of_acts {w : World} {a : Option Addr} {cap : Nat} {l : List Deed} (hl : ActsAt w a cap l) : 0 < l.length → ∀ b off s, a = some ⟨b, off, s⟩ → b < w.heap.size := fun h b off s e => by
 obtain ⟨b', off', e', hbl, _⟩ := hl.row h
 rw [e] at e'; cases e'; exact hbl
end Go.Proofs.Ytggfdkkhlokmlab


