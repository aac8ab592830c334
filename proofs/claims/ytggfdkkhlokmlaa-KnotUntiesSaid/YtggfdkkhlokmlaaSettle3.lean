/- The reference's SettlePay. -/
import Derived.Test.YtggfdkkhlokmlaaSettle2
namespace Go.Proofs.Ytggfdkkhlokmlaa
open Go.RowKit
attribute [local go_sem] hc_pays hc_next hc_size pc_0 pc_1 pc_2 pc_3 pc_4 pc_5
set_option maxRecDepth 100000 in
set_option maxHeartbeats 4000000 in
theorem settlePay_yes (h : Hs) (l : List Pay) (a : Option Addr) (cap i : Nat) (w : World) (hp : PaysAt w a cap l) (hr : h.Room) (hi : i < l.length) (h1 : (payAt l i).st = 1) :
    Calls Try.prog 49 #[.agg (hc h (.slice a l.length cap)), .int .i64 i] w (SettlePost (h.move (payAt l i).frm (payAt l i).to (payAt l i).amt) (settled l i) w) := by
  have hpi := payAt_get hi
  have hset : settled l i = l.set i (payAt l i).done := rfl
  have hsl := settled_len l i
  rw [hset] at hsl ⊢
  have hfin := fun cur => row_set (cur := cur) (l := l) (i := i) (f := 4) (q := (payAt l i).done) (u := .int .i64 2)
  have hq : ∀ k v, (pc (payAt l i).done)[k]? = some v → (k = 4 ∧ v = .int .i64 2) ∨ (k ≠ 4 ∧ (pc (payAt l i))[k]? = some v) := by
    intro k v hv
    have hk : k < 6 := (Array.getElem?_eq_some_iff.1 hv).1
    rcases k with _ | _ | _ | _ | _ | _ | k
    · exact .inr ⟨by omega, hv⟩
    · exact .inr ⟨by omega, hv⟩
    · exact .inr ⟨by omega, hv⟩
    · exact .inr ⟨by omega, hv⟩
    · left; exact ⟨rfl, by simpa [pc, Pay.done] using hv.symm⟩
    · exact .inr ⟨by omega, hv⟩
    · omega
  obtain ⟨p, ep⟩ : ∃ p, payAt l i = p := ⟨_, rfl⟩
  rw [ep] at hpi h1 hq ⊢
  rw [ep] at hfin hsl
  have hml : (l.length : Int) ≤ 9223372036854775807 := by have h1 := hp.le; have h2 := hp.capm; unfold maxLen at h2; omega
  have hii : (i : Int) < (l.length : Int) := by omega
  have hl0 : 0 < l.length := by omega
  have hroom := hp.room
  have hone : (Value.slice a l.length cap).oneCell' = true := rfl
  replace ep := Lib.hid ep
  replace hset := Lib.hid hset
  replace hsl := Lib.hid hsl
  replace hfin := Lib.hid hfin
  replace hq := Lib.hid hq
  replace hpi := Lib.hid hpi
  replace hp := Lib.hid hp
  have hsm : sm 0 (i : Int) ((l.length : Int) - 1) = true := sm_yes (by omega)
  go_enter Try.func49, Try.ntmps49
  go_upto_region 1 with fail
  generalize hW : World.alloc (World.alloc w _) _ = W0
  have hgA : W0.heap[w.heap.size]? = some (.cells (hc h (.slice a l.length cap)) 30 (0, 0)) := by rw [← hW]; exact heap_alloc2_old w _ _
  have hgZ : W0.heap[w.heap.size + 1]? = some (.cells (hc Hs.zero (.slice none 0 0)) 30 (0, 0)) := by rw [← hW]; exact heap_alloc2_new w _ _
  have hB : Below w.heap.size w W0 := by rw [← hW]; exact ((Below.refl w.heap.size w).alloc (Nat.le_refl _) _).alloc (by simp) _
  have hp0 := hp.out.below hB
  clear hW
  obtain ⟨b, o, rfl, hbl, hc0⟩ := hp0.row hl0
  obtain ⟨x0, x1, x2, x3, x4, x5⟩ := hp0.six hpi.out
  rw [h1] at x4
  have hcl := cells_at hgA
  clear hc0 x0 x1 x2 x3 x5
  go_upto_region 3 with (first | go_skip | (go_at_call 64; refine (within_any _ _ _ _).mono ?_; rintro e w' ⟨rfl, rfl⟩; rw [hsm]))
  clear hcl x4
  go_upto_region 4 with (first | go_skip | (refine ld_row 30 _ rfl rfl _ rfl _ _ _ _ hgA Try.underlying30 rfl info30 ?_) | (go_at_call 15; refine (copyHouse_any h l _ cap _ hp0).mono ?_; rintro e w1 ⟨⟨v, rfl, hown⟩, hb1⟩; obtain ⟨g, cap', cur, rfl, hgg, hcur, hcn, hcm, hcz, hcr⟩ := hown.row hl0) | (refine st_row 30 _ _ rfl rfl _ rfl _ rfl _ _ (hkeep hb1 hgA) info30 rfl (hc_one _ _ rfl) ?_; intro w2 hgA2 hgr hsz))
  simp only [Act.put]
  have hlA : w.heap.size < W0.heap.size := hlt hgA
  have hlZ : w.heap.size + 1 < W0.heap.size := hlt hgZ
  have hgA' : g ≠ w.heap.size := by omega
  have hZ1 : w1.heap[w.heap.size + 1]? = some (.cells (hc Hs.zero (.slice none 0 0)) 30 (0, 0)) := hkeep hb1 hgZ
  have hZ2 : w2.heap[w.heap.size + 1]? = some (.cells (hc Hs.zero (.slice none 0 0)) 30 (0, 0)) := (hgr.block _ (hlt hZ1) (by simp)).trans hZ1
  have hG2 := (hgr.block _ (hlt hcur) (by simp; omega)).trans hcur
  have hB1 : Below w.heap.size w w1 := hB.trans (hb1.mono hB.size)
  have hB2 : Below w.heap.size w w2 := hB1.grown hgr hB1.size (fun k hk => by cases hk; exact Nat.le_refl _)
  have hcl := cells_at hgA2
  have hcp2 : ∀ j v, (pc p)[j]? = some v → w2.cell? ⟨g, i * 6 + j, none⟩ = some v := fun j v hv => by rw [cells_at hG2]; exact hcr i p hpi.out j v hv
  have hci : i * 6 + 4 < cur.size := by rw [hcz]; omega
  have hlg := hlt hG2
  have hcg : (w2.alloc (.cells (pc p) 36)).cell? ⟨g, i * 6 + 4, none⟩ = some (.int .i64 1) := by
    rw [cells_at (hold hG2 _), hcr i p hpi.out 4 _ (pc_4 p), h1]
  have hfg : (w2.alloc (.cells (pc p) 36)).frozen? ⟨g, i * 6 + 4, none⟩ = false := frozenAt (hold hG2 _) _
  have hcl2 := cells_at (hold hgA2 (.cells (pc p) 36))
  have hAs := hold (hsetOther hgA2 (g := g) (i := i * 6 + 4) (Ne.symm hgA') (.int .i64 2)) (.cells (pc p) 36)
  have hZs := hold (hsetOther (g := g) (i := i * 6 + 4) hZ2 (by omega) (.int .i64 2)) (.cells (pc p) 36)
  have hGs := hold (hsetSame (i := i * 6 + 4) hG2 (.int .i64 2)) (.cells (pc p) 36)
  have eS : (w2.setCell ⟨g, i * 6 + 4, none⟩ (.int .i64 2)).heap.size = w2.heap.size := by simp [World.setCell]
  have hPs := hnew (w2.setCell ⟨g, i * 6 + 4, none⟩ (.int .i64 2)) (.cells (pc p) 36)
  rw [eS] at hPs
  have hclp := cells_at hPs
  have hB2' := hB2.setCell (p := ⟨g, i * 6 + 4, none⟩) (by show w.heap.size ≤ g; omega) (.int .i64 2)
  have hB3 := hB2'.alloc hB2'.size (.cells (pc p) 36)
  replace eS := Lib.hid eS
  replace hsz := Lib.hid hsz
  replace hcp2 := Lib.hid hcp2
  replace hAs := Lib.hid hAs
  replace hZs := Lib.hid hZs
  replace hGs := Lib.hid hGs
  replace hPs := Lib.hid hPs
  replace hG2 := Lib.hid hG2
  replace hZ2 := Lib.hid hZ2
  replace hgA2 := Lib.hid hgA2
  replace hcr := Lib.hid hcr
  replace hcz := Lib.hid hcz
  replace hcur := Lib.hid hcur
  clear hZ1 hgA hgZ hB hB1 hown hgr hp0
  go_wp2_with (first | go_skip | (refine ld_cells 36 _ rfl rfl g (i * 6) rfl (pc p) _ Try.underlying36 rfl info36 hcp2.out ?_) | (refine st_new 36 _ _ rfl w2 36 _ rfl rfl rfl _ rfl info36 rfl (pc_one p) ?_) | (refine ld_row 30 _ rfl rfl _ rfl _ _ _ _ hAs.out Try.underlying30 rfl info30 ?_) | (go_at_call 30; refine (moveSum_any h _ p.frm p.to p.amt _ hr rfl).mono ?_; rintro e w4 ⟨rfl, hb4⟩) | (refine st_row 30 _ _ rfl rfl _ rfl _ rfl _ _ (hkeep hb4 hZs.out) info30 rfl (hc_one _ _ rfl) ?_; intro w5 hr5 hgr5 hsz5))
  have hG4 := hkeep hb4 hGs.out
  have hG5 := (hgr5.block _ (hlt hG4) (by simp; omega)).trans hG4
  have hcur2 := hfin.out cur hcr.out hi (by omega) hq.out
  have hB4 : Below w.heap.size w w4 := hB3.trans (hb4.mono hB3.size)
  refine bodyPost_ret (results_house rfl _ _ _ _ _ rfl hr5) rfl ⟨⟨some ⟨g, 0, none⟩, cap', by rw [hsl.out], PaysAt.of_row hG5 (by rw [hsl.out]; exact hcn) hcm (by rw [hsl.out]; exact hroom) hcur2, fun b off s e => by cases e; omega⟩, ?_⟩
  exact hB4.grown hgr5 hB4.size fun k hk => by cases hk; omega
set_option maxRecDepth 100000 in
set_option maxHeartbeats 4000000 in
theorem settlePay_no (h : Hs) (l : List Pay) (a : Option Addr) (cap : Nat) (n : Int) (w : World) (hp : PaysAt w a cap l) (hn : ¬ (0 ≤ n ∧ n < l.length ∧ (payAt l n.toNat).st = 1)) :
    Calls Try.prog 49 #[.agg (hc h (.slice a l.length cap)), .int .i64 n] w (SamePost h (.slice a l.length cap) w) := by
  have hml : (l.length : Int) ≤ 9223372036854775807 := by have h1 := hp.le; have h2 := hp.capm; unfold maxLen at h2; omega
  have h1 : (Value.slice a l.length cap).oneCell' = true := rfl
  cases n0 : sm 0 n ((l.length : Int) - 1)
  · clear hp hn
    replace n0 := Lib.hid n0
    go_enter Try.func49, Try.ntmps49
    go_wp2_with (first | go_skip | (go_at_call 64; refine (within_any _ _ _ _).mono ?_; rintro e w' ⟨rfl, rfl⟩; rw [n0.out]) | (refine ld_row 30 _ rfl rfl _ rfl _ _ _ _ (heap_alloc2_old _ _ _) Try.underlying30 rfl info30 ?_) | (refine st_row 30 _ _ rfl rfl _ rfl _ rfl _ _ (heap_alloc2_new _ _ _) info30 rfl (hc_one _ _ h1) ?_; intro w' hr hgr hsz))
    refine bodyPost_ret (results_house rfl _ _ _ _ _ rfl hr) rfl ⟨rfl, ?_⟩
    exact (((Below.refl _ _).alloc (Nat.le_refl _) _).alloc (by simp) _).grown hgr (by simp; omega) (fun k hk => by cases hk; omega)
  · have n1 := sm_true n0
    obtain ⟨i, rfl⟩ : ∃ i : Nat, n = i := ⟨n.toNat, by omega⟩
    have hi : i < l.length := by omega
    have hii : (i : Int) < (l.length : Int) := by omega
    have hst : (payAt l i).st ≠ 1 := fun e => hn ⟨by omega, by omega, by simpa using e⟩
    have hpi := payAt_get hi
    obtain ⟨p, ep⟩ : ∃ p, payAt l i = p := ⟨_, rfl⟩
    rw [ep] at hst hpi
    obtain ⟨b, o, rfl, _, _⟩ := hp.row (by omega)
    clear n1
    replace hp := Lib.hid hp
    replace ep := Lib.hid ep
    replace hpi := Lib.hid hpi
    replace n0 := Lib.hid n0
    clear hn
    go_enter Try.func49, Try.ntmps49
    go_upto_region 1 with fail
    generalize hW : World.alloc (World.alloc w _) _ = W0
    have hgA : W0.heap[w.heap.size]? = some (.cells (hc h (.slice (some ⟨b, o, none⟩) l.length cap)) 30 (0, 0)) := by rw [← hW]; exact heap_alloc2_old w _ _
    have hgZ : W0.heap[w.heap.size + 1]? = some (.cells (hc Hs.zero (.slice none 0 0)) 30 (0, 0)) := by rw [← hW]; exact heap_alloc2_new w _ _
    have hB : Below w.heap.size w W0 := by rw [← hW]; exact ((Below.refl w.heap.size w).alloc (Nat.le_refl _) _).alloc (by simp) _
    have hp2 := hp.out.below hB
    clear hW
    obtain ⟨x0, x1, x2, x3, x4, x5⟩ := hp2.six hpi.out
    have hcl := cells_at hgA
    clear x0 x1 x2 x3 x5 hp2
    go_wp2_with (first | go_skip | (go_at_call 64; refine (within_any _ _ _ _).mono ?_; rintro e w' ⟨rfl, rfl⟩; rw [n0.out]) | (refine ld_row 30 _ rfl rfl _ rfl _ _ _ _ hgA Try.underlying30 rfl info30 ?_) | (refine st_row 30 _ _ rfl rfl _ rfl _ rfl _ _ hgZ info30 rfl (hc_one _ _ h1) ?_; intro w' hr hgr hsz))
    refine bodyPost_ret (results_house rfl _ _ _ _ _ rfl hr) rfl ⟨rfl, ?_⟩
    exact hB.grown hgr hB.size (fun k hk => by cases hk; omega)
theorem settlePay_any (h : Hs) (l : List Pay) (a : Option Addr) (cap : Nat) (n : Int) (w : World) (hp : PaysAt w a cap l) (hr : h.Room) :
    Calls Try.prog 49 #[.agg (hc h (.slice a l.length cap)), .int .i64 n] w (HPost (settleH h l n) (settleL l n) w) := by
  by_cases hn : 0 ≤ n ∧ n < l.length ∧ (payAt l n.toNat).st = 1
  · obtain ⟨i, rfl⟩ : ∃ i : Nat, n = i := ⟨n.toNat, by omega⟩
    have e1 : settleH h l i = h.move (payAt l i).frm (payAt l i).to (payAt l i).amt := by rw [settleH, if_pos hn]; simp
    have e2 : settleL l i = settled l i := by rw [settleL, if_pos hn]; simp
    rw [e1, e2]
    exact (settlePay_yes h l a cap i w hp hr (by omega) (by simpa using hn.2.2)).mono fun e w' ⟨⟨a', cap', he, hp', _⟩, hb⟩ => ⟨⟨a', cap', he, hp'⟩, hb⟩
  · have e1 : settleH h l n = h := by rw [settleH, if_neg hn]
    have e2 : settleL l n = l := by rw [settleL, if_neg hn]
    rw [e1, e2]
    exact (settlePay_no h l a cap n w hp hn).mono fun e w' ⟨he, hb⟩ => ⟨⟨a, cap, he, hp.below hb⟩, hb⟩
end Go.Proofs.Ytggfdkkhlokmlaa
