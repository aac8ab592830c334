/- ledger.New and the reference's NewHouse. -/
import Derived.Test.YtggfdkkhlokmlaaSum
namespace Go.Proofs.Ytggfdkkhlokmlaa
open Go.RowKit

def Hs.setLim (h : Hs) (i k v : Int) : Hs := { h with lim := fun a b => if a = i ∧ b = k then v else h.lim a b }
theorem hc_setLim (h : Hs) (s : Value) (i k v : Int) (h0 : 0 ≤ i) (h1 : i < 4) (k0 : 0 ≤ k) (k1 : k < 4) : (hc h s).setIfInBounds (24 + i.toNat * 4 + k.toNat) (.int .i64 v) = hc (h.setLim i k v) s := by
  rcases four ⟨h0, h1⟩ with rfl | rfl | rfl | rfl <;> rcases four ⟨k0, k1⟩ with rfl | rfl | rfl | rfl <;> rfl
/-- A new house, of which the first n limits are written. -/
def Hs.newTo (n : Nat) : Hs := { has := fun _ => 0, cr := fun _ => 0, sent := fun _ _ => 0, lim := fun i k => if i * 4 + k < n then -1 else 0, next := 0 }
def Hs.new : Hs := { has := fun _ => 0, cr := fun _ => 0, sent := fun _ _ => 0, lim := fun _ _ => -1, next := 0 }
theorem newTo_end (s : Value) : hc (Hs.newTo 16) s = hc Hs.new s := by
  apply hc_ext
  · intros; rfl
  · intros; rfl
  · intros; rfl
  · intro i k h0 h1 k0 k1
    have : i * 4 + k < ((16 : Nat) : Int) := by omega
    simp only [Hs.newTo, Hs.new, this, if_true]
  · rfl
theorem newTo_step (s : Value) (n i k : Nat) (hi : i < 4) (hk : k < 4) (hn : n = 4 * i + k) : (hc (Hs.newTo n) s).setIfInBounds (24 + i * 4 + k) (.int .i64 (-1)) = hc (Hs.newTo (n + 1)) s := by
  have := hc_setLim (Hs.newTo n) s i k (-1) (by omega) (by omega) (by omega) (by omega)
  rw [Int.toNat_natCast, Int.toNat_natCast] at this
  rw [this]
  apply hc_ext
  · intros; rfl
  · intros; rfl
  · intros; rfl
  · intro a b h0 h1 k0 k1
    simp only [Hs.setLim, Hs.newTo]
    by_cases hab : a = (i : Int) ∧ b = (k : Int)
    · rw [if_pos hab, if_pos (by omega)]
    · rw [if_neg hab]
      by_cases h2 : a * 4 + b < (n : Int)
      · rw [if_pos h2, if_pos (by omega)]
      · rw [if_neg h2, if_neg (by omega)]
  · rfl
attribute [local go_sem] hc_size

set_option maxHeartbeats 1000000 in
theorem newHouse_any (w : World) :
    Calls Try.prog 20 #[] w fun e w' => e = .returned (.agg (hc Hs.new (.slice none 0 0))) ∧ Below w.heap.size w w' := by
  have fin := Lib.hid (newTo_end (.slice none 0 0))
  go_enter Try.func20, Try.ntmps20
  go_wp2
  go_loopw [3] (fun i wr => ∃ k : Nat, k ≤ 16 ∧ i = .int .i64 k ∧ wr.heap[w.heap.size + 1]? = some (.cells (hc (Hs.newTo k) (.slice none 0 0)) 30 (0, 0)) ∧ (∃ z : Array Value, z.size = 42 ∧ wr.heap[w.heap.size]? = some (.cells z 30 (0, 0))) ∧ Below w.heap.size w wr) (fun i _ => (16 - intOf i).toNat)
  case atStart => exact ⟨0, by omega, rfl, heap_alloc2_new _ _ _, ⟨_, rfl, heap_alloc2_old _ _ _⟩, ((Below.refl _ _).alloc (Nat.le_refl _) _).alloc (by simp) _⟩
  case round =>
    obtain ⟨k, hk, rfl, hg, ⟨z, hz, hg2⟩, hb⟩ := hrel
    have hsz := hb.size
    by_cases h4 : k < 16
    · have q1 : 0 ≤ (k : Int) / 4 := by omega
      have q2 : (k : Int) / 4 < 4 := by omega
      have q3 : 0 ≤ (k : Int) % 4 := by omega
      have q4 : (k : Int) % 4 < 4 := by omega
      obtain ⟨v, hv⟩ : ∃ v, (hc (Hs.newTo k) (.slice none 0 0))[24 + k / 4 * 4 + k % 4]? = some v := ⟨_, hc_limN _ _ (k / 4) (k % 4) (by omega) (by omega)⟩
      have hcl := cells_at hg
      have hfr := frozen_at hg
      go_wp2
      go_roundw
      case rel =>
        refine ⟨k + 1, by omega, by go_num, ?_, ⟨z, hz, ?_⟩, hb.setCell (by simp) _⟩
        · rw [← newTo_step _ k (k / 4) (k % 4) (by omega) (by omega) (by omega)]
          exact hcell_set hg _
        · rw [heap_setCell_other _ _ _ _ (by simp)]
          exact hg2
      case measure => simp [intOf]; omega
    · obtain rfl : k = 16 := by omega
      rw [fin.out] at hg
      go_wp2_with (first | go_skip | (refine ld_row 30 _ rfl rfl _ rfl _ _ _ _ hg Try.underlying30 rfl info30 ?_) | (refine st_row 30 _ _ rfl rfl _ rfl _ rfl _ _ hg2 info30 hz (hc_one _ _ rfl) ?_; intro w' hr hgr hsz'))
      refine bodyPost_ret (results_house rfl _ _ _ _ _ rfl hr) rfl ⟨rfl, ?_⟩
      exact hb.grown hgr hsz (fun k hk => by cases hk; omega)

set_option maxHeartbeats 1000000 in
theorem new_any (w : World) :
    Calls Try.prog 19 #[] w fun e w' => e = .returned (.agg (hc Hs.new (.slice none 0 0))) ∧ Below w.heap.size w w' := by
  have fin := Lib.hid (newTo_end (.slice none 0 0))
  go_enter Try.func19, Try.ntmps19
  go_wp2
  go_loopw [4] (fun i wr => ∃ k : Nat, k ≤ 4 ∧ i = .int .i64 k ∧ wr.heap[w.heap.size + 1]? = some (.cells (hc (Hs.newTo (4 * k)) (.slice none 0 0)) 30 (0, 0)) ∧ (∃ z : Array Value, z.size = 42 ∧ wr.heap[w.heap.size]? = some (.cells z 30 (0, 0))) ∧ Below w.heap.size w wr) (fun i _ => (4 - intOf i).toNat)
  case atStart => exact ⟨0, by omega, rfl, heap_alloc2_new _ _ _, ⟨_, rfl, heap_alloc2_old _ _ _⟩, ((Below.refl _ _).alloc (Nat.le_refl _) _).alloc (by simp) _⟩
  case round =>
    obtain ⟨k, hk, rfl, hg, ⟨z, hz, hg2⟩, hb⟩ := hrel
    have hsz := hb.size
    by_cases h4 : k < 4
    · go_wp2
      obtain ⟨wo, hwo⟩ : ∃ wo : World, wo = wr := ⟨_, rfl⟩
      go_loopw [7] (fun i wr => ∃ m : Nat, m ≤ 4 ∧ i = .int .i64 m ∧ wr.heap[w.heap.size + 1]? = some (.cells (hc (Hs.newTo (4 * k + m)) (.slice none 0 0)) 30 (0, 0)) ∧ (∃ z : Array Value, z.size = 42 ∧ wr.heap[w.heap.size]? = some (.cells z 30 (0, 0))) ∧ Below w.heap.size w wr) (fun i _ => (4 - intOf i).toNat)
      case atStart => exact ⟨0, by omega, rfl, hg, ⟨z, hz, hg2⟩, hb⟩
      case round =>
        clear hg hg2 hb hwo hz
        obtain ⟨m, hm, rfl, hg, ⟨z, hz, hg2⟩, hb⟩ := hrel
        by_cases h5 : m < 4
        · obtain ⟨v, hv⟩ : ∃ v, (hc (Hs.newTo (4 * k + m)) (.slice none 0 0))[24 + k * 4 + m]? = some v := ⟨_, hc_limN _ _ k m h4 h5⟩
          have hcl := cells_at hg
          have hfr := frozen_at hg
          go_wp2
          go_roundw
          case rel =>
            refine ⟨m + 1, by omega, by go_num, ?_, ⟨z, hz, ?_⟩, hb.setCell (by simp) _⟩
            · rw [show 4 * k + (m + 1) = 4 * k + m + 1 from by omega, ← newTo_step _ (4 * k + m) k m (by omega) (by omega) (by omega)]
              exact hcell_set hg _
            · rw [heap_setCell_other _ _ _ _ (by simp)]
              exact hg2
          case measure => simp [intOf]; omega
        · obtain rfl : m = 4 := by omega
          go_wp2
          go_roundw
          case rel => exact ⟨k + 1, by omega, by go_num, by rw [show 4 * (k + 1) = 4 * k + 4 from by omega]; exact hg, ⟨z, hz, hg2⟩, hb⟩
          case measure => simp [intOf]; omega
    · obtain rfl : k = 4 := by omega
      rw [fin.out] at hg
      go_wp2_with (first | go_skip | (refine ld_row 30 _ rfl rfl _ rfl _ _ _ _ hg Try.underlying30 rfl info30 ?_) | (refine st_row 30 _ _ rfl rfl _ rfl _ rfl _ _ hg2 info30 hz (hc_one _ _ rfl) ?_; intro w' hr hgr hsz'))
      refine bodyPost_ret (results_house rfl _ _ _ _ _ rfl hr) rfl ⟨rfl, ?_⟩
      exact hb.grown hgr hsz (fun k hk => by cases hk; omega)
end Go.Proofs.Ytggfdkkhlokmlaa
