/- A bank: New, House, Book; in, waiting, and what says no: walks. -/
import Derived.Test.YtggfdkkhlokmlabBankAt
import Derived.Test.YtggfdkkhlokmlabClone
import Derived.Test.YtggfdkkhlokmlabCSel
import Derived.Test.YtggfdkkhlokmlabCBk1
import Derived.Test.YtggfdkkhlokmlabCLed
import Derived.Test.YtggfdkkhlokmlabMidMath
namespace Go.Proofs.Ytggfdkkhlokmlab
open Go.RowKit
attribute [local go_sem] hc_pays hc_next hc_size rc_0 rc_1 rc_2 rc_size
theorem infoRp : (Try.prog.info? 44).map (·.size) = some 3 := by kernel_rfl
theorem rc_one (c n : Int) (s : Value) (hs : s.oneCell' = true) : (rc c n s).all (·.oneCell') = true := by
 have hi : ∀ k n, (Value.int k n).oneCell' = true := fun _ _ => rfl
 simp [rc, hs, hi]
theorem results_hr {fn : Func} {p q : Tmp} (hf : fn.results = #[.cell p 29, .cell q 44]) (tmps : Array Value) (w : World) (g k : Nat) (h : Hs) (s : Value) (c n : Int) (v : Value)
  (hp : tmps.getD p undef = .pointer (some ⟨g, 0, none⟩)) (hq : tmps.getD q undef = .pointer (some ⟨k, 0, none⟩)) (hg : w.heap[g]? = some (.cells (hc h s) 29 (0, 0))) (hk : w.heap[k]? = some (.cells (rc c n v) 44 (0, 0))) :
  (results fn tmps).run Try.prog w = .ok (.tuple #[.agg (hc h s), .agg (rc c n v)]) w := by
 have hp' : tmps[p]?.getD undef = .pointer (some ⟨g, 0, none⟩) := by simpa using hp
 have hq' : tmps[q]?.getD undef = .pointer (some ⟨k, 0, none⟩) := by simpa using hq
 simp [results, hf, hp', hq', asAddr, run_loadVar_row w g _ _ _ (0, 0) _ hg Try.underlying29 rfl info30, run_loadVar_row w k _ _ _ (0, 0) _ hk Try.underlying44 rfl infoRp]
set_option maxHeartbeats 400000 in
theorem in_any (n lo hi : Int) (w : World) : Calls Try.prog 54 #[.int .i64 n, .int .i64 lo, .int .i64 hi] w fun e w' => e = .returned (.bool (sm lo n hi)) ∧ w = w' := by
 go_enter Try.func54, Try.ntmps54
 by_cases h1 : lo ≤ n
 ·go_wp2
  go_ret
  exact ⟨by simp [sm, h1], rfl⟩
 ·go_wp2
  go_ret
  exact ⟨by simp [sm]; omega, rfl⟩
theorem in_val {n lo hi : Int} {b : Bool} (h : sm lo n hi = b) (w : World) : Calls Try.prog 54 #[.int .i64 n, .int .i64 lo, .int .i64 hi] w fun e w' => e = .returned (.bool b) ∧ w = w' := by
 rw [← h]; exact in_any n lo hi w
set_option maxRecDepth 100000 in
theorem doNo_any (c : Int) (w : World) : Calls Try.prog 52 #[.int .i64 c] w fun e w' => e = .returned (.agg (rc c 0 (.slice none 0 0))) ∧ Below w.heap.size w w' := by
 go_enter Try.func52, Try.ntmps52
 have hg := hnew w (.cells (rc c 0 (.slice none 0 0)) 44)
 go_wp2_with (first | go_skip | (refine st_new 44 _ _ rfl _ 44 _ rfl rfl rfl (rc c 0 (.slice none 0 0)) rfl infoRp rfl (rc_one _ _ _ rfl) ?_))
 exact bodyPost_ret (results_cell_row rfl _ _ _ 44 _ (0, 0) _ rfl hg Try.underlying44 rfl infoRp) rfl ⟨rfl, (Below.refl _ _).alloc (Nat.le_refl _) _⟩
set_option maxRecDepth 100000 in
set_option maxHeartbeats 1000000 in
theorem nextNo_any (h : Hs) (s : Value) (hs : s.oneCell' = true) (c : Int) (b : Nat) (w : World) (hb : w.heap[b]? = some (.cells (hc h s) 29 (0, 0))) :
  Calls Try.prog 78 #[.int .i64 c, .pointer (some ⟨b, 0, none⟩)] w fun e w' => e = .returned (.tuple #[.agg (hc h s), .agg (rc c 0 (.slice none 0 0))]) ∧ Below w.heap.size w w' := by
 go_enter Try.func78, Try.ntmps78
 go_upto_region 1 with fail
 generalize hW : World.alloc (World.alloc w _) _ = W0
 have hgH : W0.heap[w.heap.size]? = some (.cells (hc Hs.zero (.slice none 0 0)) 29 (0, 0)) := by rw [← hW]; exact heap_alloc2_old w _ _
 have hgR : W0.heap[w.heap.size + 1]? = some (.cells (rc 0 0 (.slice none 0 0)) 44 (0, 0)) := by rw [← hW]; exact heap_alloc2_new w _ _
 have hgB : W0.heap[b]? = some (.cells (hc h s) 29 (0, 0)) := by rw [← hW]; exact hold (hold hb _) _
 have hB : Below w.heap.size w W0 := by rw [← hW]; exact ((Below.refl w.heap.size w).alloc (Nat.le_refl _) _).alloc (by simp) _
 clear hW
 go_wp2_with (first | go_skip | (refine ld_row 29 _ rfl rfl _ rfl _ _ _ _ hgB Try.underlying29 rfl info30 ?_) | (refine st_row 29 _ _ rfl rfl _ rfl _ rfl _ _ hgH info30 rfl (hc_one _ _ hs) ?_; intro w2 hr2 hgr2 hsz2) | (refine st_row 44 _ _ rfl rfl _ rfl (rc c 0 (.slice none 0 0)) rfl _ _ ((hgr2.block _ (hlt hgR) (by simp)).trans hgR) infoRp rfl (rc_one _ _ _ rfl) ?_; intro w3 hr3 hgr3 hsz3))
 have hl := hlt hgH
 have hr2' := (hgr3.block _ (hlt hr2) (by simp)).trans hr2
 have hB2 := hB.grown hgr2 hB.size fun k hk => by cases hk; omega
 have hB3 := hB2.grown hgr3 hB2.size fun k hk => by cases hk; omega
 exact bodyPost_ret (results_hr rfl _ _ _ _ _ _ _ _ _ rfl rfl hr2' hr3) rfl ⟨rfl, hB3⟩
set_option maxRecDepth 100000 in
theorem bankNew_any (w : World) : Calls Try.prog 37 #[] w fun e w' => ∃ p, e = .returned (.pointer (some ⟨p, 0, none⟩)) ∧ w.heap.size ≤ p ∧ (∀ av, BankAt w' p av Bk.new) ∧ Below w.heap.size w w' := by
 go_enter Try.func37, Try.ntmps37
 go_wp2_with fail
 refine (new_any _).mono ?_
 rintro e w1 ⟨rfl, hb1⟩
 go_wp2_with fail
 go_ret
 exact ⟨w1.heap.size, rfl, hb1.size, fun av => ⟨⟨none, 0, hnew w1 _, ⟨by simp [Bk.new], by simp, by simp [Bk.new], by simp, by simp [Bk.new]⟩, by simp [Bk.new]⟩⟩, hb1.alloc hb1.size _⟩
set_option maxRecDepth 100000 in
set_option maxHeartbeats 1000000 in
theorem bankHouse_any (p : Nat) (av : Nat → Prop) (B : Bk) (w : World) (hB : BankAt w p av B) :
  Calls Try.prog 21 #[.pointer (some ⟨p, 0, none⟩)] w (CopiedPost B.h B.l w) := by
 obtain ⟨a, cap, hg, hp, _⟩ := hB.box
 clear hB
 replace hp := Lib.hid hp
 go_enter Try.func21, Try.ntmps21
 go_upto_region 1 with fail
 generalize hW : World.alloc w _ = W0
 have hgZ : W0.heap[w.heap.size]? = some (.cells (hc Hs.zero (.slice none 0 0)) 29 (0, 0)) := by rw [← hW]; exact hnew w _
 have hgP : W0.heap[p]? = some (.cells (bc B.h (.slice a B.l.length cap) B.text B.down B.fail B.acts) 83 (0, 0)) := by rw [← hW]; exact hold hg _
 have hB0 : Below w.heap.size w W0 := by rw [← hW]; exact (Below.refl w.heap.size w).alloc (Nat.le_refl _) _
 have hp0 := hp.out.below hB0
 have hcx := cells_at hgP
 clear hW
 go_wp2_with (first | go_skip | (refine ld_mid 29 _ rfl rfl _ 0 rfl _ _ (hc B.h (.slice a B.l.length cap)) _ _ hgP Try.underlying29 rfl info30 (bc_h _ _ _ _ _ _) ?_) | (go_at_call 51; refine (copied_any B.h B.l a cap _ hp0).mono ?_; rintro e w1 ⟨⟨v, rfl, hown⟩, hb1⟩; obtain ⟨a1, cap1, rfl, _, _⟩ := hown.at_; replace hown := Lib.hid hown) | (refine st_row 29 _ _ rfl rfl _ rfl _ rfl _ _ (hkeep hb1 hgZ) info30 rfl (hc_one _ _ rfl) ?_; intro w2 hr2 hgr2 hsz2))
 have hB1 := bstep hB0 hB0.size hb1
 have hlz := hlt hgZ
 refine bodyPost_ret (results_house rfl _ _ _ _ _ rfl hr2) rfl ⟨⟨_, rfl, ?_⟩, hB1.grown hgr2 hB1.size fun k hk => by cases hk; omega⟩
 refine OwnPays.mono (base := W0.heap.size) (hown.out.keep fun g hg => ?_) (by omega)
 by_cases hlt : g < w1.heap.size
 ·exact hgr2.block g hlt (by simp; omega)
 ·have e1 : w1.heap[g]? = none := by simp; omega
  have e2 : w2.heap[g]? = none := by simp [hsz2]; omega
  rw [e1, e2]
set_option maxRecDepth 100000 in
set_option maxHeartbeats 1000000 in
theorem bankBook_any (p : Nat) (av : Nat → Prop) (B : Bk) (w : World) (hB : BankAt w p av B) :
  Calls Try.prog 24 #[.pointer (some ⟨p, 0, none⟩)] w fun e w' => e = .returned (.tuple #[.string (str B.text), .bool (!B.down)]) ∧ Below w.heap.size w w' := by
 obtain ⟨a, cap, hg, _, _⟩ := hB.box
 clear hB
 have c42 : w.cell? ⟨p, 42, none⟩ = some (.string (str B.text)) := by rw [cells_at hg, bc_42]
 have c43 : w.cell? ⟨p, 43, none⟩ = some (.bool B.down) := by rw [cells_at hg, bc_43]
 clear hg
 go_enter Try.func24, Try.ntmps24
 go_upto_region 3 with fail
 go_big_quiet (fail)
 go_wp2_with fail
 go_ret2
 exact ⟨rfl, below_drewN (Below.refl _ _) _⟩
end Go.Proofs.Ytggfdkkhlokmlab


