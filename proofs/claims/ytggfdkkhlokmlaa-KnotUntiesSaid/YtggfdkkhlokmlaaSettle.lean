/- slices.Clone of payments; queue.Settle and the reference's SettlePay. -/
import Derived.Test.YtggfdkkhlokmlaaCmp
import Derived.Test.YtggfdkkhlokmlaaMoveSum
import Derived.Lib.SliceRun
import Derived.Deep.Cut
namespace Go.Proofs.Ytggfdkkhlokmlaa
open Go.RowKit
attribute [local go_sem] hc_pays hc_next hc_size pc_0 pc_1 pc_2 pc_3 pc_4 pc_5
def ClonePost (l : List Pay) (w : World) (e : Ending) (w' : World) : Prop := (∃ v, e = .returned v ∧ OwnPays w' w.heap.size v l) ∧ Below w.heap.size w w'
set_option maxRecDepth 100000 in
set_option maxHeartbeats 1000000 in
theorem clone_some (l : List Pay) (a : Addr) (cap : Nat) (w : World) (hp : PaysAt w (some a) cap l) :
    Calls Try.prog 75 #[.slice (some a) l.length cap] w (ClonePost l w) := by
  have hroom := hp.room
  have hnews : ∀ j u, (flat l)[j]? = some u → w.cell? (a.add j) = some u ∧ (a.add j).block < w.heap.size := by
    rcases Nat.eq_zero_or_pos l.length with h0 | h0
    · rw [List.length_eq_zero_iff.1 h0]; intro j u hu; simp [flat] at hu
    · obtain ⟨b, off, e, hbl, _⟩ := hp.row h0
      cases e
      exact fun j u hu => ⟨hp.cells j u hu, by unfold Addr.add; split <;> exact hbl⟩
  replace hnews := Lib.hid hnews
  have hmx : l.length ≤ maxLen := Nat.le_trans hp.le hp.capm
  clear hp
  obtain ⟨i0, z, hi, hz0, hz1, hz2, hz3⟩ := info36z
  have hq := fun w => Lib.run_eql_slice_nil (P := Try.prog) w 28 36 (some a) l.length cap 0 0 Try.underlying28
  go_enter Try.func75, Try.ntmps75
  go_wp2_with (at_builtin; refine wpList_append_own _ rfl _ _ 28 rfl w.heap.size 36 i0 z 6 48 Try.underlying28 hi hz0 hz1 hz2 hz3 (by decide) (.slice (some ⟨w.heap.size, 0, none⟩) 0 0) 0 [] rfl ⟨rfl, .inr ⟨w.heap.size, 0, #[], rfl, Nat.le_refl _, hnew w _, Nat.le_refl _, Nat.zero_le _, rfl, rfl⟩⟩ a l.length cap (flat l) rfl (flat_length l) ?c1 (flat_one l) ?c3 ?c4 ?c5 ?_)
  case c1 =>
    intro j u hu
    obtain ⟨h1, h2⟩ := hnews.out j u hu
    rw [← h1]
    exact ((Below.refl w.heap.size _).alloc (Nat.le_refl _) _).cell h2
  case c3 => simpa using hmx
  case c4 => simpa using hroom
  case c5 => simp
  intro v' w1 hown hgr _
  have hO : OwnPays w1 w.heap.size v' l := ⟨by simpa using hown, hroom⟩
  have hB : Below w.heap.size w w1 := ((Below.refl w.heap.size _).alloc (Nat.le_refl _) _).grown hgr (by simp) (fun k hk => by simp [Value.ownBlock] at hk; omega)
  replace hown := Lib.hid hown
  clear hgr
  go_wp2
  go_ret
  exact ⟨⟨_, rfl, hO⟩, hB⟩
set_option maxRecDepth 100000 in
set_option maxHeartbeats 1000000 in
theorem clone_nil (w : World) : Calls Try.prog 75 #[.slice none 0 0] w (ClonePost [] w) := by
  have hq := fun w => Lib.run_eql_slice_nil (P := Try.prog) w 28 36 none 0 0 0 0 Try.underlying28
  go_enter Try.func75, Try.ntmps75
  go_wp2
  go_ret
  exact ⟨⟨_, rfl, ⟨rfl, .inl ⟨rfl, rfl⟩⟩, by simp⟩, Below.refl _ _⟩
theorem clone_any (l : List Pay) (a : Option Addr) (cap : Nat) (w : World) (hp : PaysAt w a cap l) : Calls Try.prog 75 #[.slice a l.length cap] w (ClonePost l w) := by
  cases a with
  | some a => exact clone_some l a cap w hp
  | none =>
    have hc0 := hp.nil0 rfl
    have hl0 : l = [] := List.length_eq_zero_iff.1 (by have := hp.le; omega)
    subst hl0
    subst hc0
    exact clone_nil w
/-- One field of one payment in a row is overwritten. -/
theorem row_set {cur : Array Value} {l : List Pay} {i f : Nat} {q : Pay} {u : Value} (hcur : ∀ j p, l[j]? = some p → ∀ k v, (pc p)[k]? = some v → cur[j * 6 + k]? = some v) (hi : i < l.length) (hf : f < 6)
    (hq : ∀ k v, (pc q)[k]? = some v → (k = f ∧ v = u) ∨ (k ≠ f ∧ (pc (payAt l i))[k]? = some v)) :
    ∀ j p, (l.set i q)[j]? = some p → ∀ k v, (pc p)[k]? = some v → (cur.setIfInBounds (i * 6 + f) u)[j * 6 + k]? = some v := by
  intro j p hj k v hk
  have hk6 : k < 6 := (Array.getElem?_eq_some_iff.1 hk).1
  by_cases e : i = j
  · subst e
    rw [List.getElem?_set_self hi] at hj
    cases hj
    rcases hq k v hk with ⟨rfl, rfl⟩ | ⟨hne, h2⟩
    · have h3 : (pc (payAt l i))[k]? = some ((pc (payAt l i))[k]'hk6) := Array.getElem?_eq_getElem hk6
      have h4 := hcur i _ (payAt_get hi) k _ h3
      have h5 := (Array.getElem?_eq_some_iff.1 h4).1
      simp [h5]
    · rw [Array.getElem?_setIfInBounds_ne (by omega)]
      exact hcur i _ (payAt_get hi) k v h2
  · rw [List.getElem?_set_ne e] at hj
    rw [Array.getElem?_setIfInBounds_ne (by omega)]
    exact hcur j p hj k v hk
theorem OwnPays.row {w : World} {base : Nat} {v : Value} {l : List Pay} (h : OwnPays w base v l) (hl : 0 < l.length) : ∃ g cap cur, v = .slice (some ⟨g, 0, none⟩) l.length cap ∧ base ≤ g ∧ w.heap[g]? = some (.cells cur 36 (0, 0)) ∧ l.length ≤ cap ∧ cap ≤ maxLen ∧ cur.size = cap * 6 ∧ ∀ j p, l[j]? = some p → ∀ k v, (pc p)[k]? = some v → cur[j * 6 + k]? = some v := by
  obtain ⟨⟨hlen, hv⟩, hroom⟩ := h
  rcases hv with ⟨rfl, h0⟩ | ⟨g, cap, cur, rfl, hb, hg, hn, hc, hsz, htake⟩
  · omega
  · refine ⟨g, cap, cur, rfl, hb, hg, hn, hc, hsz, fun j p hp k v hv => ?_⟩
    have h1 := flat_get l j p hp k v hv
    have hj := (List.getElem?_eq_some_iff.1 hp).1
    have hk : k < 6 := (Array.getElem?_eq_some_iff.1 hv).1
    rw [← htake, List.getElem?_take_of_lt (by omega)] at h1
    simpa using h1
theorem PaysAt.of_row {w : World} {g cap : Nat} {cur : Array Value} {l : List Pay} (hg : w.heap[g]? = some (.cells cur 36 (0, 0))) (hn : l.length ≤ cap) (hc : cap ≤ maxLen) (hr : l.length * 48 ≤ 140737488355328) (hcur : ∀ j p, l[j]? = some p → ∀ k v, (pc p)[k]? = some v → cur[j * 6 + k]? = some v) : PaysAt w (some ⟨g, 0, none⟩) cap l :=
  ⟨hn, hc, hr, by simp, fun _ => ⟨g, 0, rfl, hlt hg, fun i p hp j v hv => by rw [Nat.zero_add, cells_at hg]; exact hcur i p hp j v hv⟩⟩
/-- A house by value behind a settling: its payments lie in a block of the call's own. -/
def SettlePost (h : Hs) (l : List Pay) (w : World) (e : Ending) (w' : World) : Prop := (∃ a cap, e = .returned (.agg (hc h (.slice a l.length cap))) ∧ PaysAt w' a cap l ∧ ∀ b off s, a = some ⟨b, off, s⟩ → w.heap.size ≤ b) ∧ Below w.heap.size w w'
set_option maxRecDepth 100000 in
set_option maxHeartbeats 4000000 in
theorem settle_yes (h : Hs) (l : List Pay) (a : Option Addr) (cap i : Nat) (w : World) (hp : PaysAt w a cap l) (hr : h.Room) (hi : i < l.length) (h1 : (payAt l i).st = 1) :
    Calls Try.prog 48 #[.agg (hc h (.slice a l.length cap)), .int .i64 i] w (SettlePost (h.move (payAt l i).frm (payAt l i).to (payAt l i).amt) (settled l i) w) := by
  have hpi := payAt_get hi
  have hset : settled l i = l.set i (payAt l i).done := rfl
  have hsl := settled_len l i
  rw [hset] at hsl ⊢
  have hfin := fun cur => row_set (cur := cur) (l := l) (i := i) (f := 4) (q := (payAt l i).done) (u := .int .i64 2)
  have hq : ∀ k v, (pc (payAt l i).done)[k]? = some v → (k = 4 ∧ v = .int .i64 2) ∨ (k ≠ 4 ∧ (pc (payAt l i))[k]? = some v) := by
    intro k v hv
    have hk : k < 6 := (Array.getElem?_eq_some_iff.1 hv).1
    rcases k with _ | _ | _ | _ | _ | _ | k
    · exact .inr ⟨by omega, hv⟩
    · exact .inr ⟨by omega, hv⟩
    · exact .inr ⟨by omega, hv⟩
    · exact .inr ⟨by omega, hv⟩
    · left; exact ⟨rfl, by simpa [pc, Pay.done] using hv.symm⟩
    · exact .inr ⟨by omega, hv⟩
    · omega
  obtain ⟨p, ep⟩ : ∃ p, payAt l i = p := ⟨_, rfl⟩
  rw [ep] at hpi h1 hq ⊢
  rw [ep] at hfin hsl
  have hml : (l.length : Int) ≤ 9223372036854775807 := by have h1 := hp.le; have h2 := hp.capm; unfold maxLen at h2; omega
  have hii : (i : Int) < (l.length : Int) := by omega
  have hl0 : 0 < l.length := by omega
  have hroom := hp.room
  have hone : (Value.slice a l.length cap).oneCell' = true := rfl
  replace ep := Lib.hid ep
  replace hset := Lib.hid hset
  replace hsl := Lib.hid hsl
  replace hfin := Lib.hid hfin
  replace hq := Lib.hid hq
  replace hpi := Lib.hid hpi
  replace hp := Lib.hid hp
  go_enter Try.func48, Try.ntmps48
  go_upto_region 1 with fail
  generalize hW : World.alloc (World.alloc w _) _ = W0
  have hgA : W0.heap[w.heap.size]? = some (.cells (hc h (.slice a l.length cap)) 30 (0, 0)) := by rw [← hW]; exact heap_alloc2_old w _ _
  have hgZ : W0.heap[w.heap.size + 1]? = some (.cells (hc Hs.zero (.slice none 0 0)) 30 (0, 0)) := by rw [← hW]; exact heap_alloc2_new w _ _
  have hB : Below w.heap.size w W0 := by rw [← hW]; exact ((Below.refl w.heap.size w).alloc (Nat.le_refl _) _).alloc (by simp) _
  have hp0 := hp.out.below hB
  clear hW
  obtain ⟨b, o, rfl, hbl, hc0⟩ := hp0.row hl0
  obtain ⟨x0, x1, x2, x3, x4, x5⟩ := hp0.six hpi.out
  have hcp : ∀ j v, (pc p)[j]? = some v → W0.cell? ⟨b, o + i * 6 + j, none⟩ = some v := fun j v hv => by rw [Nat.add_assoc]; exact hc0 i p hpi.out j v hv
  rw [h1] at x4
  replace hcp := Lib.hid hcp
  have hcl := cells_at hgA
  clear hc0 x0 x1 x2 x3 x5
  go_upto_region 4 with (first | go_skip | (refine ld_cells 36 _ rfl rfl b (o + i * 6) rfl (pc p) _ Try.underlying36 rfl info36 hcp.out ?_) | (refine st_new 36 _ _ rfl W0 36 _ rfl rfl rfl _ rfl info36 rfl (pc_one p) ?_))
  clear hcl x4
  have hP := cells_at (hnew W0 (.cells (pc p) 36))
  go_upto_region 5 with (first | go_skip | (refine ld_row 30 _ rfl rfl _ rfl _ _ _ _ (hold hgA _) Try.underlying30 rfl info30 ?_) | (go_at_call 29; refine (move_any h _ p.frm p.to p.amt _ hr hone).mono ?_; rintro e w1 ⟨rfl, hb1⟩) | (refine st_row 30 _ _ rfl rfl _ rfl _ rfl _ _ (hkeep hb1 (hold hgA _)) info30 rfl (hc_one _ _ rfl) ?_; intro w2 hgA2 hgr hsz))
  simp only [Act.put]
  obtain ⟨h', hh'⟩ : ∃ h', h.move p.frm p.to p.amt = h' := ⟨_, rfl⟩
  rw [hh'] at hgA2 ⊢
  replace hh' := Lib.hid hh'
  clear hP
  have hZ1 : w1.heap[w.heap.size + 1]? = some (.cells (hc Hs.zero (.slice none 0 0)) 30 (0, 0)) := hkeep hb1 (hold hgZ _)
  have hZ2 : w2.heap[w.heap.size + 1]? = some (.cells (hc Hs.zero (.slice none 0 0)) 30 (0, 0)) := (hgr.block _ (hlt hZ1) (by simp)).trans hZ1
  have hB0 := hB.alloc hB.size (.cells (pc p) 36)
  have hB1 : Below w.heap.size w w1 := hB0.trans (hb1.mono hB0.size)
  have hB2 : Below w.heap.size w w2 := hB1.grown hgr hB1.size (fun k hk => by cases hk; exact Nat.le_refl _)
  have hp2 := hp.out.below hB2
  clear hZ1 hB0 hB1 hgr hsz hb1 hgA hgZ hp0 hB
  have hcl := cells_at hgA2
  go_upto_region 6 with (first | go_skip | (go_at_call 75; refine (clone_any l _ cap _ hp2).mono ?_; rintro e w3 ⟨⟨v, rfl, hown⟩, hb3⟩; obtain ⟨g, cap', cur, rfl, hgg, hcur, hcn, hcm, hcz, hcr⟩ := hown.row hl0; have hcl3 := cells_at (hkeep hb3 hgA2); have hfr3 := frozenAt (hkeep hb3 hgA2)))
  have hA3 := hkeep hb3 hgA2
  have hZ3 := hkeep hb3 hZ2
  have hlA : w.heap.size < w2.heap.size := hlt hgA2
  have hlZ : w.heap.size + 1 < w2.heap.size := hlt hZ2
  have hB3 : Below w.heap.size w w3 := hB2.trans (hb3.mono hB2.size)
  have hgA' : g ≠ w.heap.size := by omega
  have hci : i * 6 + 4 < cur.size := by rw [hcz]; omega
  have hcg : w3.cell? ⟨g, i * 6 + 4, none⟩ = some (.int .i64 1) := by
    rw [cells_at hcur, hcr i p hpi.out 4 _ (pc_4 p), h1]
  have hfg : w3.frozen? ⟨g, i * 6 + 4, none⟩ = false := frozenAt hcur _
  have hAs := hsetOther (hsetSame (i := 40) hA3 (.slice (some ⟨g, 0, none⟩) l.length cap')) (g := g) (i := i * 6 + 4) (Ne.symm hgA') (.int .i64 2)
  have hZs := hsetOther (g := g) (i := i * 6 + 4) (hsetOther (g := w.heap.size) (i := 40) hZ3 (by omega) (.slice (some ⟨g, 0, none⟩) l.length cap')) (by omega) (.int .i64 2)
  have hGs := hsetSame (i := i * 6 + 4) (hsetOther (g := w.heap.size) (i := 40) hcur hgA' (.slice (some ⟨g, 0, none⟩) l.length cap')) (.int .i64 2)
  rw [hc_setPays] at hAs
  replace hAs := Lib.hid hAs
  replace hZs := Lib.hid hZs
  replace hGs := Lib.hid hGs
  replace hcr := Lib.hid hcr
  replace hcz := Lib.hid hcz
  replace hcur := Lib.hid hcur
  replace hA3 := Lib.hid hA3
  replace hZ3 := Lib.hid hZ3
  replace hgA2 := Lib.hid hgA2
  replace hZ2 := Lib.hid hZ2
  clear hcl
  go_wp2_with (first | go_skip | (refine ld_row 30 _ rfl rfl _ rfl _ _ _ _ hAs.out Try.underlying30 rfl info30 ?_) | (refine st_row 30 _ _ rfl rfl _ rfl _ rfl _ _ hZs.out info30 rfl (hc_one _ _ rfl) ?_; intro w5 hr5 hgr5 hsz5))
  have hG5 := (hgr5.block _ (hlt hGs.out) (by simp; omega)).trans hGs.out
  have hcur2 := hfin.out cur hcr.out hi (by omega) hq.out
  have hB4 := (hB3.setCell (p := ⟨w.heap.size, 40, none⟩) (Nat.le_refl _) (.slice (some ⟨g, 0, none⟩) l.length cap')).setCell (p := ⟨g, i * 6 + 4, none⟩) (by show w.heap.size ≤ g; omega) (.int .i64 2)
  refine bodyPost_ret (results_house rfl _ _ _ _ _ rfl hr5) rfl ⟨⟨some ⟨g, 0, none⟩, cap', by rw [hsl.out, hh'.out], PaysAt.of_row hG5 (by rw [hsl.out]; exact hcn) hcm (by rw [hsl.out]; exact hroom) hcur2, fun b off s e => by cases e; omega⟩, ?_⟩
  exact hB4.grown hgr5 hB4.size fun k hk => by cases hk; omega
end Go.Proofs.Ytggfdkkhlokmlaa
