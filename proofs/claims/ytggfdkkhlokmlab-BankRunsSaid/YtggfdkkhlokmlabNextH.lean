/- The reference's NextHouse: the walk. -/
import Derived.Deep.DeepCutAuto
import Derived.Test.YtggfdkkhlokmlabNhMath
import Derived.Test.YtggfdkkhlokmlabNextF
import Derived.Test.YtggfdkkhlokmlabUntieHouse
namespace Go.Proofs.Ytggfdkkhlokmlab
open Go.RowKit
attribute [local go_sem] hc_pays hc_next hc_size rc_0 rc_1 rc_2 rc_size dc_0 dc_1 dc_2 dc_3 dc_4 dc_size
set_option maxRecDepth 100000 in
set_option maxHeartbeats 1000000 in
theorem refNo_any (h : Hs) (s : Value) (hs : s.oneCell' = true) (c : Int) (b : Nat) (w : World) (hb : w.heap[b]? = some (.cells (hc h s) 29 (0, 0))) :
  Calls Try.prog 63 #[.int .i64 c, .pointer (some ⟨b, 0, none⟩)] w fun e w' => e = .returned (.tuple #[.agg (hc h s), .agg (rc c 0 (.slice none 0 0))]) ∧ Below w.heap.size w w' := by
 go_enter Try.func63, Try.ntmps63
 go_upto_region 1 with fail
 generalize hW : World.alloc (World.alloc w _) _ = W0
 have hgH : W0.heap[w.heap.size]? = some (.cells (hc Hs.zero (.slice none 0 0)) 29 (0, 0)) := by rw [← hW]; exact heap_alloc2_old w _ _
 have hgR : W0.heap[w.heap.size + 1]? = some (.cells (rc 0 0 (.slice none 0 0)) 44 (0, 0)) := by rw [← hW]; exact heap_alloc2_new w _ _
 have hgB : W0.heap[b]? = some (.cells (hc h s) 29 (0, 0)) := by rw [← hW]; exact hold (hold hb _) _
 have hB : Below w.heap.size w W0 := by rw [← hW]; exact ((Below.refl w.heap.size w).alloc (Nat.le_refl _) _).alloc (by simp) _
 clear hW
 go_wp2_with (first | go_skip | (refine ld_row 29 _ rfl rfl _ rfl _ _ _ _ hgB Try.underlying29 rfl info30 ?_) | (refine st_row 29 _ _ rfl rfl _ rfl _ rfl _ _ hgH info30 rfl (hc_one _ _ hs) ?_; intro w2 hr2 hgr2 hsz2) | (refine st_row 44 _ _ rfl rfl _ rfl (rc c 0 (.slice none 0 0)) rfl _ _ ((hgr2.block _ (hlt hgR) (by simp)).trans hgR) infoRp rfl (rc_one _ _ _ rfl) ?_; intro w3 hr3 hgr3 hsz3))
 have hl := hlt hgH
 have hr2' := (hgr3.block _ (hlt hr2) (by simp)).trans hr2
 have hB2 := hB.grown hgr2 hB.size fun k hk => by cases hk; omega
 have hB3 := hB2.grown hgr3 hB2.size fun k hk => by cases hk; omega
 exact bodyPost_ret (results_hr rfl _ _ _ _ _ _ _ _ _ rfl rfl hr2' hr3) rfl ⟨rfl, hB3⟩
theorem owns_only' {w w' : World} {base n sz : Nat} {t : TypeId} {v : Value} {xs : List Value} {P : Nat → Prop} (h : w.ownsRow base t sz v n xs) (hO : Only P w w') (hn : ∀ x, v.ownBlock = some x → ¬ P x) : w'.ownsRow base t sz v n xs := by
 obtain ⟨hlen, hv⟩ := h
 refine ⟨hlen, ?_⟩
 rcases hv with h0 | ⟨g, cap, cur, rfl, hb, hg, hrest⟩
 ·exact .inl h0
 ·exact .inr ⟨g, cap, cur, rfl, hb, (hO.block g (hlt hg) (hn g rfl)).trans hg, hrest⟩
theorem owns_block' {w : World} {base n sz : Nat} {t : TypeId} {v : Value} {xs : List Value} (h : w.ownsRow base t sz v n xs) {x : Nat} (hx : v.ownBlock = some x) : base ≤ x ∧ ∃ cur, w.heap[x]? = some (.cells cur t (0, 0)) := by
 rcases h.2 with ⟨rfl, _⟩ | ⟨g, cap, cur, rfl, hb, hg, _⟩
 ·simp [Value.ownBlock] at hx
 ·simp [Value.ownBlock] at hx; subst hx; exact ⟨hb, cur, hg⟩
end Go.Proofs.Ytggfdkkhlokmlab


