/- knot.Most: the walk. -/
import Derived.Test.YtggfdkkhlokmlaaLessMath
import Derived.Test.YtggfdkkhlokmlaaWayMath
import Derived.Deep.RegionHeld3
namespace Go.Proofs.Ytggfdkkhlokmlaa
open Go.RowKit
attribute [local go_sem] hc_has hc_cr hc_sent hc_lim hc_pays hc_next hc_size pc_0 pc_1 pc_2 pc_3 pc_4 pc_5 qc_size
theorem nc_size (n : Nat → Int) : (nc n).size = 4 := rfl
attribute [local go_sem] nc_size
theorem grown_refl (w : World) (r : Option Nat) : w.grownBy w r := ⟨rfl, rfl, rfl, Nat.le_refl _, fun _ _ _ => rfl⟩
theorem grown_below {W wr wx : World} {g : Nat} (h : W.grownBy wr (some g)) (hb : Below wr.heap.size wr wx) : W.grownBy wx (some g) :=
  ⟨hb.os.trans h.os, hb.tape.trans h.tape, hb.output.trans h.output, Nat.le_trans h.size hb.size, fun k hk hne => (hb.block k (Nat.lt_of_lt_of_le hk h.size)).trans (h.block k hk hne)⟩
theorem grown_set {W wr : World} {g i : Nat} (h : W.grownBy wr (some g)) (v : Value) : W.grownBy (wr.setCell ⟨g, i, none⟩ v) (some g) :=
  ⟨h.os, h.tape, h.output, by simp [World.setCell]; exact h.size, fun k hk hne => (heap_setCell_other _ _ _ _ (by simpa using hne)).trans (h.block k hk hne)⟩
theorem grown_set2 {W wr : World} {g x i : Nat} (h : W.grownBy wr (some g)) (hx : W.heap.size ≤ x) (v : Value) : W.grownBy (wr.setCell ⟨x, i, none⟩ v) (some g) :=
  ⟨h.os, h.tape, h.output, by simp [World.setCell]; exact h.size, fun k hk hne => (heap_setCell_other _ _ _ _ (by simp; omega)).trans (h.block k hk hne)⟩
/-- What Most answers: of every bank the most. -/
noncomputable def mostN (h : Hs) (l : List Pay) (b : Nat) : Int := if goodB h l = true then (mostOf h l (b : Int) : Int) else 0
def MostPost (h : Hs) (l : List Pay) (w : World) (e : Ending) (w' : World) : Prop := e = .returned (.agg (nc (mostN h l))) ∧ Below w.heap.size w w'
theorem nc_congr {n m : Nat → Int} (h : ∀ b, b < 4 → n b = m b) : nc n = nc m := by simp only [nc, h 0 (by omega), h 1 (by omega), h 2 (by omega), h 3 (by omega)]
set_option maxRecDepth 100000 in
set_option maxHeartbeats 1000000 in
theorem most_bad (h : Hs) (l : List Pay) (a : Option Addr) (cap : Nat) (w : World) (hp : PaysAt w a cap l) (hgb : goodB h l = false) :
    Calls Try.prog 56 #[.agg (hc h (.slice a l.length cap))] w (MostPost h l w) := by
  have hm : nc (mostN h l) = nc fun _ => 0 := nc_congr fun b _ => by simp [mostN, hgb]
  replace hm := Lib.hid hm
  replace hgb := Lib.hid hgb
  replace hp := Lib.hid hp
  go_enter Try.func56, Try.ntmps56
  go_upto_region 2 with fail
  generalize hW : World.alloc (World.alloc (World.alloc w _) _) _ = W0
  have hgA : W0.heap[w.heap.size]? = some (.cells (hc h (.slice a l.length cap)) 30 (0, 0)) := by rw [← hW]; exact hold (heap_alloc2_old w _ _) _
  have hgZ : W0.heap[w.heap.size + 1]? = some (.cells (nc fun _ => 0) 26 (0, 0)) := by rw [← hW]; exact hold (heap_alloc2_new w _ _) _
  have hgN : W0.heap[w.heap.size + 2]? = some (.cells (nc fun _ => 0) 26 (0, 0)) := by
    rw [← hW]
    have := hnew (World.alloc (World.alloc w (.cells (hc h (.slice a l.length cap)) 30)) (.cells (nc fun _ => 0) 26)) (.cells (nc fun _ => 0) 26)
    rw [alloc_sz, alloc_sz] at this
    exact this
  have hB : Below w.heap.size w W0 := by rw [← hW]; exact (((Below.refl w.heap.size w).alloc (Nat.le_refl _) _).alloc (by simp) _).alloc (by simp; omega) _
  have hp0 := hp.out.below hB
  clear hW
  go_wp2_with (first | go_skip | (refine ld_row 30 _ rfl rfl _ rfl _ _ _ _ hgA Try.underlying30 rfl info30 ?_) | (go_at_call 16; refine (good_any h l _ cap _ hp0).mono ?_; rintro e w1 ⟨rfl, hb1⟩; rw [hgb.out]) | (refine ld_row 26 _ rfl rfl _ rfl _ _ _ _ (hkeep hb1 hgN) Try.underlying26 rfl info26 ?_) | (refine st_row 26 _ _ rfl rfl _ rfl _ rfl _ _ (hkeep hb1 hgZ) info26 rfl (nc_one _) ?_; intro w5 hr5 hgr5 hsz5))
  have hB1 : Below w.heap.size w w1 := hB.trans (hb1.mono hB.size)
  have hB5 : Below w.heap.size w w5 := hB1.grown hgr5 hB1.size (fun k hk => by cases hk; omega)
  exact bodyPost_ret (results_cell_row rfl _ _ _ 26 _ (0, 0) _ rfl hr5 Try.underlying26 rfl info26) rfl ⟨by rw [hm.out], hB5⟩
end Go.Proofs.Ytggfdkkhlokmlaa
