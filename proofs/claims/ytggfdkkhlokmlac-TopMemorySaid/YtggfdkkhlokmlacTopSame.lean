/- What is alike, for the statements of the whole. -/
import Derived.Deep.QuietTactic
import Derived.Test.YtggfdkkhlokmlacBankFns
import Derived.Test.YtggfdkkhlokmlacCMem
import Derived.Test.YtggfdkkhlokmlacCSel
import Derived.Test.YtggfdkkhlokmlacPlay
namespace Go.Proofs.Ytggfdkkhlokmlac
open Go.RowKit
attribute [local go_sem high] neq_accs neq_sents neq_lims neq_pay neq_pay6
attribute [local go_sem] hc_pays hc_next hc_size
set_option maxRecDepth 100000 in
set_option maxHeartbeats 1000000 in
theorem topSameHouse_eq (h : Hs) (l : List Pay) (a b : Option Addr) (cap cap' : Nat) (w : World) (ha : PaysAt w a cap l) (hb : PaysAt w b cap' l) :
    Calls Try.prog 28 #[.agg (hc h (.slice a l.length cap)), .agg (hc h (.slice b l.length cap'))] w fun e w' => e = .returned (.bool true) ∧ Below w.heap.size w w' := by
  have hgA := heap_alloc2_old w (.cells (hc h (.slice a l.length cap)) 42) (.cells (hc h (.slice b l.length cap')) 42)
  have hgB := heap_alloc2_new w (.cells (hc h (.slice a l.length cap)) 42) (.cells (hc h (.slice b l.length cap')) 42)
  have hAA := hgA
  have hBB := hgB
  replace hgA := Lib.hid hgA
  replace hgB := Lib.hid hgB
  replace hAA := cells_at hAA
  replace hBB := cells_at hBB
  have hml : l.length ≤ 9223372036854775807 := by have h1 := ha.le; have h2 := ha.capm; unfold maxLen at h2; omega
  go_enter Try.func28, Try.ntmps28
  go_wp2_with (first | go_skip | (refine ld_mid 37 _ rfl rfl _ _ rfl _ _ (accs h) _ _ hgA.out Try.underlying37 rfl info25 (hc_accs h _) ?_) | (refine ld_mid 37 _ rfl rfl _ _ rfl _ _ (accs h) _ _ hgB.out Try.underlying37 rfl info25 (hc_accs h _) ?_) | (refine ld_mid 39 _ rfl rfl _ _ rfl _ _ (sents h) _ _ hgA.out Try.underlying39 rfl info27 (hc_sents h _) ?_) | (refine ld_mid 39 _ rfl rfl _ _ rfl _ _ (sents h) _ _ hgB.out Try.underlying39 rfl info27 (hc_sents h _) ?_) | (refine ld_mid 39 _ rfl rfl _ _ rfl _ _ (lims h) _ _ hgA.out Try.underlying39 rfl info27 (hc_lims h _) ?_) | (refine ld_mid 39 _ rfl rfl _ _ rfl _ _ (lims h) _ _ hgB.out Try.underlying39 rfl info27 (hc_lims h _) ?_))
  clear hAA hBB
  go_loopg [44] l.length (fun g i wr => ∃ k : Nat, k ≤ l.length ∧ g = l.length - k ∧ i = .int .i64 k ∧ wr.heap[w.heap.size]? = some (.cells (hc h (.slice a l.length cap)) 42 (0, 0)) ∧ wr.heap[w.heap.size + 1]? = some (.cells (hc h (.slice b l.length cap')) 42 (0, 0)) ∧ Below w.heap.size w wr)
  case atStart => exact ⟨0, by omega, rfl, rfl, hgA.out, hgB.out, ((Below.refl _ _).alloc (Nat.le_refl _) _).alloc (by simp) _⟩
  case round =>
    clear hgA hgB
    obtain ⟨k, hk, rfl, rfl, hgA, hgB, hbw⟩ := hrel
    by_cases h4 : k < l.length
    · obtain ⟨p, hpk⟩ : ∃ p, l[k]? = some p := ⟨l[k], List.getElem?_eq_getElem h4⟩
      obtain ⟨b1, o1, rfl, _, _⟩ := ha.row (by omega)
      obtain ⟨b2, o2, rfl, _, _⟩ := hb.row (by omega)
      obtain ⟨x0, x1, x2, x3, x4, x5⟩ := (ha.below hbw).six hpk
      obtain ⟨y0, y1, y2, y3, y4, y5⟩ := (hb.below hbw).six hpk
      have hcA := cells_at hgA
      have hcB := cells_at hgB
      clear ha hb hpk
      go_wp2
      go_quiet (fail)
      go_wp2
      go_roundg (l.length - (k + 1))
      case measure => omega
      case rel => exact ⟨k + 1, by omega, rfl, by go_num, hgA, hgB, below_drewN hbw _⟩
    · have hd : decide ((k : Int) < l.length) = false := by simp; omega
      go_wp2
      go_ret
      exact ⟨rfl, hbw⟩
set_option maxRecDepth 100000 in
set_option maxHeartbeats 1000000 in
theorem topSame_any (p q : Nat) (av av' : Nat → Prop) (K K' : Bk) (w : World) (h1 : BankAt w p av K) (h2 : BankAt w q av' K') (eh : K'.h = K.h) (el : K'.l = K.l) (et : K'.text = K.text) (ed : K'.down = K.down) :
    Calls Try.prog 13 #[.pointer (some ⟨p, 0, none⟩), .pointer (some ⟨q, 0, none⟩)] w fun e w' => e = .returned (.bool true) ∧ Below w.heap.size w w' := by
  have cB1 := fun w h => bankBook_any p av K w h
  have cB2 := fun w h => bankBook_any q av' K' w h
  have cH1 := fun w h => bankHouse_any p av K w h
  have cH2 := fun w h => bankHouse_any q av' K' w h
  rw [et, ed] at cB2
  rw [eh, el] at cH2
  obtain ⟨h, l, t, dn, f, n⟩ := K
  simp only at cB1 cB2 cH1 cH2
  replace cB1 := Lib.hid cB1
  replace cB2 := Lib.hid cB2
  replace cH1 := Lib.hid cH1
  replace cH2 := Lib.hid cH2
  clear eh el et ed
  go_enter Try.func13, Try.ntmps13
  go_upto_region 2 with (first | go_skip | (go_at_call 27; refine (cB1.out _ h1).mono ?_; rintro e w1 ⟨rfl, hb1⟩))
  replace h1 := h1.below hb1
  replace h2 := h2.below hb1
  go_upto_region 3 with (first | go_skip | (go_at_call 27; refine (cB2.out _ h2).mono ?_; rintro e w2 ⟨rfl, hb2⟩))
  replace h1 := h1.below hb2
  replace h2 := h2.below hb2
  have hB2 := hb1.trans (hb2.mono hb1.size)
  clear hb1 hb2
  go_wp2_with (first | go_skip | (go_at_call 12; refine (cH2.out _ (h2.below hb3)).mono ?_; rintro e w4 ⟨⟨v, rfl, hv⟩, hb4⟩; obtain ⟨a4, cap4, rfl, hp4, _⟩ := hv.at_) | (go_at_call 12; refine (cH1.out _ h1).mono ?_; rintro e w3 ⟨⟨u, rfl, hu⟩, hb3⟩; obtain ⟨a3, cap3, rfl, hp3, _⟩ := hu.at_) | (go_at_call 28; refine (topSameHouse_eq h l a3 a4 cap3 cap4 _ (hp3.below hb4) hp4).mono ?_; rintro e w5 ⟨rfl, hb5⟩))
  go_ret
  have h3 := bstep hB2 hB2.size hb3
  have h4 := bstep h3 h3.size hb4
  exact ⟨rfl, bstep h4 h4.size hb5⟩
theorem eqlA (h : Hs) (w : World) : (binOp .eql 37 (.agg (accs h)) (.agg (accs h))).run Try.prog w = .ok (.bool true) w := by
  rw [run_eql_struct, eqA 9997]; rfl
theorem eqlS (h : Hs) (w : World) : (binOp .eql 39 (.agg (sents h)) (.agg (sents h))).run Try.prog w = .ok (.bool true) w := by
  rw [run_eql_struct, eq44 9997 _ (sents_ints h)]; rfl
theorem infoS : (Try.prog.info? 39).map (·.size) = some 16 := by kernel_rfl
set_option maxRecDepth 100000 in
theorem quiet_any (p : Option Addr) (d : Deed) (c n : Int) (v : Value) (w : World) : Calls Try.prog 14 #[.pointer p, .agg (dc d), .agg (rc c n v)] w fun e w' => e = .returned (.bool true) ∧ Below w.heap.size w w' := by
  go_enter Try.func14, Try.ntmps14
  go_wp2_with fail
  go_ret
  exact ⟨rfl, ((Below.refl w.heap.size w).alloc (Nat.le_refl _) _).alloc (by simp) _⟩
theorem quiet_looks (base : Nat) (l : List Deed) : Looks 14 #[] base (fun _ _ _ => True) l where
  enter := fun args w => by kernel_rfl
  keep := fun _ _ _ _ _ _ _ _ _ => trivial
  look := fun i d p av v w1 _ _ _ _ _ _ _ _ _ => (quiet_any _ d _ _ v w1).mono fun _ _ h => ⟨h.1, only_new h.2, trivial⟩
theorem lt_of_acts {w : World} {a : Option Addr} {cap : Nat} {l : List Deed} (hl : ActsAt w a cap l) : 0 < l.length → ∀ b off s, a = some ⟨b, off, s⟩ → b < w.heap.size := fun h b off s e => by
  obtain ⟨b', off', e', hbl, _⟩ := hl.row h
  rw [e] at e'; cases e'; exact hbl
end Go.Proofs.Ytggfdkkhlokmlac

