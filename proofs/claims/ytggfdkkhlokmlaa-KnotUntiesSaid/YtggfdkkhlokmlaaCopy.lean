/- The reference's CopyHouse and SameHouse (of two that are alike). -/
import Derived.Test.YtggfdkkhlokmlaaMove
import Derived.Test.YtggfdkkhlokmlaaEq
namespace Go.Proofs.Ytggfdkkhlokmlaa
open Go.RowKit
attribute [local go_sem] hc_pays hc_next hc_size neq_pay

theorem info36z : ∃ (i : TypeInfo) (z : Value), Try.prog.info? 36 = some i ∧ i.zero = some z ∧ i.size = 6 ∧ i.bytes = 48 ∧ z.cells.size = 6 := by
  have h : (Try.prog.info? 36).map (fun i => (i.zero.map (·.cells.size), i.size, i.bytes)) = some (some 6, 6, 48) := by kernel_rfl
  cases hq : Try.prog.info? 36 with
  | none => simp [hq] at h
  | some i =>
    simp only [hq, Option.map_some, Option.some.injEq, Prod.mk.injEq] at h
    obtain ⟨h1, h2, h3⟩ := h
    cases hz : i.zero with
    | none => simp [hz] at h1
    | some z => exact ⟨i, z, rfl, hz, h2, h3, by simpa [hz] using h1⟩

def Hs.zero : Hs := { has := fun _ => 0, cr := fun _ => 0, sent := fun _ _ => 0, lim := fun _ _ => 0, next := 0 }
theorem hc_setPays (h : Hs) (s v : Value) : (hc h s).setIfInBounds 40 v = hc h v := rfl
theorem OwnPays.keep {w w' : World} {base : Nat} {v : Value} {l : List Pay} (h : OwnPays w base v l) (hb : ∀ g, base ≤ g → w'.heap[g]? = w.heap[g]?) : OwnPays w' base v l := by
  obtain ⟨⟨hlen, hv⟩, hroom⟩ := h
  refine ⟨⟨hlen, ?_⟩, hroom⟩
  rcases hv with h0 | ⟨g, cap, cur, rfl, hb', hg, hrest⟩
  · exact .inl h0
  · exact .inr ⟨g, cap, cur, rfl, hb', (hb g hb').trans hg, hrest⟩
theorem hsetOther {w : World} {g k i : Nat} {o : Obj} (h : w.heap[k]? = some o) (hne : k ≠ g) (v : Value) : (w.setCell ⟨g, i, none⟩ v).heap[k]? = some o := by
  rw [heap_setCell_other _ _ _ _ (by simpa using hne)]; exact h
theorem hsetSame {w : World} {g i : Nat} {cs : Array Value} {t : TypeId} (hg : w.heap[g]? = some (.cells cs t (0, 0))) (v : Value) : (w.setCell ⟨g, i, none⟩ v).heap[g]? = some (.cells (cs.setIfInBounds i v) t (0, 0)) :=
  heap_setCell_same w g i cs t v hg
theorem frozenAt {w : World} {b : Nat} {cs : Array Value} {t : TypeId} (h : w.heap[b]? = some (.cells cs t (0, 0))) : ∀ o : Nat, w.frozen? ⟨b, o, none⟩ = false := fun o => by
  simp [World.frozen?, h]
theorem append_nil : ∀ w : World, (Builtin.append_ #[28, 28] 28 #[.slice none 0 0, .slice none 0 0]).run Try.prog w = .ok (.slice none 0 0) w := fun w => by kernel_rfl

def CopyPost (h : Hs) (l : List Pay) (w : World) (e : Ending) (w' : World) : Prop := (∃ v, e = .returned (.agg (hc h v)) ∧ OwnPays w' w.heap.size v l) ∧ Below w.heap.size w w'

set_option maxHeartbeats 1000000 in
theorem copyHouse_some (h : Hs) (l : List Pay) (a : Addr) (cap : Nat) (w : World) (hp : PaysAt w (some a) cap l) :
    Calls Try.prog 15 #[.agg (hc h (.slice (some a) l.length cap))] w (CopyPost h l w) := by
  have hroom := hp.room
  have hnews : ∀ j u, (flat l)[j]? = some u → w.cell? (a.add j) = some u ∧ (a.add j).block < w.heap.size := by
    rcases Nat.eq_zero_or_pos l.length with h0 | h0
    · rw [List.length_eq_zero_iff.1 h0]; intro j u hu; simp [flat] at hu
    · obtain ⟨b, off, e, hbl, _⟩ := hp.row h0
      cases e
      exact fun j u hu => ⟨hp.cells j u hu, by unfold Addr.add; split <;> exact hbl⟩
  replace hnews := Lib.hid hnews
  have hmx : l.length ≤ maxLen := Nat.le_trans hp.le hp.capm
  clear hp
  obtain ⟨i0, z, hi, hz0, hz1, hz2, hz3⟩ := info36z
  go_enter Try.func15, Try.ntmps15
  go_wp2_with (at_builtin; refine wpList_append_own _ rfl _ _ 28 rfl (w.heap.size + 2) 36 i0 z 6 48 Try.underlying28 hi hz0 hz1 hz2 hz3 (by decide) _ 0 [] rfl ⟨rfl, .inl ⟨rfl, rfl⟩⟩ a l.length cap (flat l) rfl (flat_length l) ?c1 (flat_one l) ?c3 ?c4 ?c5 ?_)
  case c1 =>
    intro j u hu
    obtain ⟨h1, h2⟩ := hnews.out j u hu
    rw [← h1]
    exact (((Below.refl w.heap.size _).alloc (Nat.le_refl _) _).alloc (by simp) _).cell h2
  case c3 => simpa using hmx
  case c4 => simpa using hroom
  case c5 => simp
  intro v' w1 hown hgr _
  have hO : OwnPays w1 (w.heap.size + 2) v' l := ⟨hown, hroom⟩
  obtain ⟨a', cap', rfl, _, _⟩ := hO.at_
  have hgA : w1.heap[w.heap.size]? = some (.cells (hc h (.slice (some a) l.length cap)) 30 (0, 0)) := (hgr.block _ (by simp; omega) (by simp [Value.ownBlock])).trans (heap_alloc2_old _ _ _)
  have hgZ : w1.heap[w.heap.size + 1]? = some (.cells (hc Hs.zero (.slice none 0 0)) 30 (0, 0)) := (hgr.block _ (by simp) (by simp [Value.ownBlock])).trans (heap_alloc2_new _ _ _)
  have hB : Below w.heap.size w w1 := (((Below.refl w.heap.size _).alloc (Nat.le_refl _) _).alloc (by simp) _).grown hgr (by simp; omega) (fun k hk => by simp [Value.ownBlock] at hk)
  clear hgr hown hnews
  have hcl := cells_at hgA
  have hfr := frozenAt hgA
  have hgB : (w1.setCell ⟨w.heap.size, 40, none⟩ (.slice a' l.length cap')).heap[w.heap.size]? = some (.cells (hc h (.slice a' l.length cap')) 30 (0, 0)) := hsetSame hgA _
  have hgY : (w1.setCell ⟨w.heap.size, 40, none⟩ (.slice a' l.length cap')).heap[w.heap.size + 1]? = some (.cells (hc Hs.zero (.slice none 0 0)) 30 (0, 0)) := hsetOther hgZ (by omega) _
  replace hgB := Lib.hid hgB
  replace hgY := Lib.hid hgY
  replace hO := Lib.hid hO
  go_wp2_with (first | go_skip | (refine ld_row 30 _ rfl rfl _ rfl _ _ _ _ hgB.out Try.underlying30 rfl info30 ?_) | (refine st_row 30 _ _ rfl rfl _ rfl _ rfl _ _ hgY.out info30 rfl (hc_one _ _ rfl) ?_; intro w2 hr hgr hsz))
  refine bodyPost_ret (results_house rfl _ _ _ _ _ rfl hr) rfl ⟨⟨_, rfl, ?_⟩, ?_⟩
  · refine OwnPays.mono (base := w.heap.size + 2) (hO.out.keep fun g hg => ?_) (by omega)
    have hsz1 := hB.size
    by_cases hlt : g < w1.heap.size
    · exact (hgr.block g (by simp [World.setCell]; omega) (by simp; omega)).trans (heap_setCell_other _ _ _ _ (by simp; omega))
    · have e1 : w1.heap[g]? = none := by simp; omega
      have e2 : w2.heap[g]? = none := by simp [hsz, World.setCell]; omega
      rw [e1, e2]
  · exact (hB.setCell (Nat.le_refl _) _).grown hgr (by simp [World.setCell]; exact hB.size) (fun k hk => by cases hk; omega)

set_option maxHeartbeats 1000000 in
theorem copyHouse_nil (h : Hs) (w : World) :
    Calls Try.prog 15 #[.agg (hc h (.slice none 0 0))] w (CopyPost h [] w) := by
  have happ := append_nil
  have hgA := heap_alloc2_old w (.cells (hc h (.slice none 0 0)) 30) (.cells (hc Hs.zero (.slice none 0 0)) 30)
  have hgZ := heap_alloc2_new w (.cells (hc h (.slice none 0 0)) 30) (.cells (hc Hs.zero (.slice none 0 0)) 30)
  go_enter Try.func15, Try.ntmps15
  have hsC : (hc h (.slice none 0 0)).setIfInBounds 40 (.slice none 0 0) = hc h (.slice none 0 0) := rfl
  go_wp2_with (first | go_skip | (refine ld_row 30 _ rfl rfl _ rfl _ _ _ _ hgA Try.underlying30 rfl info30 ?_) | (refine st_row 30 _ _ rfl rfl _ rfl _ rfl _ _ hgZ info30 rfl (hc_one _ _ rfl) ?_; intro w2 hr hgr hsz))
  refine bodyPost_ret (results_house rfl _ _ _ _ _ rfl hr) rfl ⟨⟨_, rfl, ?_⟩, ?_⟩
  · exact ⟨⟨rfl, .inl ⟨rfl, rfl⟩⟩, by simp⟩
  · exact (((Below.refl w.heap.size _).alloc (Nat.le_refl _) _).alloc (by simp) _).grown hgr (by simp; omega) (fun k hk => by cases hk; omega)
theorem copyHouse_any (h : Hs) (l : List Pay) (a : Option Addr) (cap : Nat) (w : World) (hp : PaysAt w a cap l) :
    Calls Try.prog 15 #[.agg (hc h (.slice a l.length cap))] w (CopyPost h l w) := by
  cases a with
  | some a => exact copyHouse_some h l a cap w hp
  | none =>
    have hc0 := hp.nil0 rfl
    have hl0 : l = [] := List.length_eq_zero_iff.1 (by have := hp.le; omega)
    subst hl0
    subst hc0
    exact copyHouse_nil h w
end Go.Proofs.Ytggfdkkhlokmlaa
