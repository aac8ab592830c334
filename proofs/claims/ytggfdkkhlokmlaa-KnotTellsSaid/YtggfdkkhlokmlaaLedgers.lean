/- The two small runs that ask whether package ledger answers at all. -/
import Derived.Test.YtggfdkkhlokmlaaCSwp
import Derived.Test.YtggfdkkhlokmlaaCMem
namespace Go.Proofs.Ytggfdkkhlokmlaa
open Go.RowKit

/-- A new house in which bank 0 has 9. -/
def h9 : Hs := Hs.new.setHas 0 9
theorem newBank (i : Int) : BankOk Hs.new i :=
  ⟨by simp [Hs.new, sm], by simp [Hs.new, sm], fun k _ _ => ⟨by simp [Hs.new, sm], by simp [Hs.new, sm], fun _ => rfl⟩⟩
theorem new_good : GoodP Hs.new [] := ⟨by simp, by simp [Hs.new, sm], fun i _ _ => newBank i, by simp, by simp⟩
theorem h9_bank (i : Int) : BankOk h9 i :=
  ⟨by by_cases e : i = 0 <;> simp [h9, Hs.setHas, Hs.new, sm, e], by simp [h9, Hs.setHas, Hs.new, sm], fun k _ _ => ⟨by simp [h9, Hs.setHas, Hs.new, sm], by simp [h9, Hs.setHas, Hs.new, sm], fun _ => rfl⟩⟩
theorem h9_good : GoodP h9 [] := ⟨by simp, by simp [h9, Hs.setHas, Hs.new, sm], fun i _ _ => h9_bank i, by simp, by simp⟩
theorem h9_may9 : mayB h9 0 1 9 = true := by decide
theorem h9_may10 : mayB h9 0 1 10 = false := by decide
theorem s015 : Sends 0 1 5 := ⟨by omega, by omega, by omega, by omega, by omega, by omega, by omega⟩
def h5 : Hs := h9.move 0 1 5
theorem h5_room : h5.Room := ⟨fun i h0 h1 => by rcases four ⟨h0, h1⟩ with rfl | rfl | rfl | rfl <;> decide, fun i h0 h1 => by rcases four ⟨h0, h1⟩ with rfl | rfl | rfl | rfl <;> decide,
  fun i k h0 h1 k0 k1 => by rcases four ⟨h0, h1⟩ with rfl | rfl | rfl | rfl <;> rcases four ⟨k0, k1⟩ with rfl | rfl | rfl | rfl <;> decide⟩
theorem nilPays (w : World) : PaysAt w none 0 [] := ⟨by simp, by simp [maxLen], by simp, fun _ => rfl, fun h => absurd h (by simp)⟩
theorem hc_h9 : (hc Hs.new (.slice none 0 0)).setIfInBounds 0 (.int .i64 9) = hc h9 (.slice none 0 0) := rfl
theorem hc_h5_1 : (hc h5 (.slice none 0 0))[2]? = some (.int .i64 5) := rfl

attribute [local go_sem] hc_pays hc_next hc_size hc_h9 hc_h5_1
set_option maxRecDepth 100000 in
set_option maxHeartbeats 1000000 in
theorem ledgersL_any (w : World) : Calls Try.prog 21 #[] w fun e w' => e = .returned (.bool true) ∧ Below w.heap.size w w' := by
  have r0 := Lib.hid h9_good.room
  have r5 := Lib.hid h5_room
  have c0 := goodB_yes h9_good
  have c1 := h9_may9
  have c2 := h9_may10
  go_enter Try.func21, Try.ntmps21
  go_wp2_with fail
  refine (new_any _).mono ?_
  rintro e w1 ⟨rfl, hb1⟩
  go_wp2_with (first | go_skip | (refine st_new 30 _ _ rfl _ 30 _ rfl rfl rfl (hc Hs.new (.slice none 0 0)) rfl info30 rfl (hc_one _ _ rfl) ?_) | (refine ld_row 30 _ rfl rfl _ rfl _ _ _ _ (hnew w1 (.cells (hc h9 (.slice none 0 0)) 30)) Try.underlying30 rfl info30 ?_))
  refine (move_yes h9 (.slice none 0 0) 0 1 5 _ r0.out s015 rfl).mono ?_
  rintro e w2 ⟨rfl, hb2⟩
  have hH := hkeep hb2 (hnew w1 (.cells (hc h9 (.slice none 0 0)) 30))
  replace hH := hold hH (.cells (hc h5 (.slice none 0 0)) 30)
  have hX := hnew w2 (.cells (hc h5 (.slice none 0 0)) 30)
  have hB : Below w.heap.size w (w2.alloc (.cells (hc h5 (.slice none 0 0)) 30)) := (bstep (hb1.alloc hb1.size _) (by have := hb1.size; simp; omega) hb2).alloc (by have := hb1.size; have := hb2.size; simp at this; omega) _
  clear hb1 hb2
  replace hB := Lib.hid hB
  go_wp2_with (first | go_skip | (refine st_new 30 _ _ rfl _ 30 _ rfl rfl rfl (hc h5 (.slice none 0 0)) rfl info30 rfl (hc_one _ _ rfl) ?_) | (refine ld_row 30 _ rfl rfl _ rfl _ _ _ _ hH Try.underlying30 rfl info30 ?_))
  have hB := hB.out
  have hs := hB.size
  generalize w2.alloc (.cells (hc h5 (.slice none 0 0)) 30) = W at *
  refine (good_any h9 [] none 0 _ (nilPays _)).mono ?_
  rintro e w3 ⟨rfl, hb3⟩
  have hB3 := bstep hB hs hb3
  have hH3 := hkeep hb3 hH
  have hX3 := hkeep hb3 hX
  go_wp2_with (first | go_skip | (refine ld_row 30 _ rfl rfl _ rfl _ _ _ _ hH3 Try.underlying30 rfl info30 ?_))
  refine (may_any h9 (.slice none 0 0) 0 1 9 _ r0.out).mono ?_
  rintro e w4 ⟨rfl, hb4⟩
  have hB4 := bstep hB3 hB3.size hb4
  have hH4 := hkeep hb4 hH3
  have hX4 := hkeep hb4 hX3
  go_wp2_with (first | go_skip | (refine ld_row 30 _ rfl rfl _ rfl _ _ _ _ hH4 Try.underlying30 rfl info30 ?_))
  refine (may_any h9 (.slice none 0 0) 0 1 10 _ r0.out).mono ?_
  rintro e w5 ⟨rfl, hb5⟩
  have hB5 := bstep hB4 hB4.size hb5
  have hX5 := hkeep hb5 hX4
  have hc5 := cells_at hX5
  go_wp2_with (first | go_skip | (refine ld_row 30 _ rfl rfl _ rfl _ _ _ _ hX5 Try.underlying30 rfl info30 ?_))
  refine (net_any h5 (.slice none 0 0) 1 0 _ (by omega) (by omega) (by omega) (by omega) r5.out).mono ?_
  rintro e w6 ⟨rfl, hb6⟩
  have hB6 := bstep hB5 hB5.size hb6
  have hX6 := hkeep hb6 hX5
  have n1 : h5.sent 1 0 - h5.sent 0 1 = -5 := rfl
  rw [n1]
  go_wp2_with (first | go_skip | (refine ld_row 30 _ rfl rfl _ rfl _ _ _ _ hX6 Try.underlying30 rfl info30 ?_))
  refine (sum_any h5 (.slice none 0 0) _ (fun i h0 h1 => by rcases four ⟨h0, h1⟩ with rfl | rfl | rfl | rfl <;> decide)).mono ?_
  rintro e w7 ⟨rfl, hb7⟩
  have n2 : h5.total = 9 := rfl
  rw [n2]
  go_wp2_with fail
  go_ret
  exact ⟨rfl, bstep hB6 hB6.size hb7⟩
set_option maxRecDepth 100000 in
set_option maxHeartbeats 1000000 in
theorem ledgersK_any (w : World) : Calls Try.prog 32 #[] w fun e w' => e = .returned (.bool true) ∧ Below w.heap.size w w' := by
  have r0 := Lib.hid h9_good.room
  have r5 := Lib.hid h5_room
  have c0 := goodB_yes h9_good
  have c1 := h9_may9
  have c2 := h9_may10
  go_enter Try.func32, Try.ntmps32
  go_wp2_with fail
  refine (new_any _).mono ?_
  rintro e w1 ⟨rfl, hb1⟩
  go_wp2_with (first | go_skip | (refine st_new 30 _ _ rfl _ 30 _ rfl rfl rfl (hc Hs.new (.slice none 0 0)) rfl info30 rfl (hc_one _ _ rfl) ?_) | (refine ld_row 30 _ rfl rfl _ rfl _ _ _ _ (hnew w1 (.cells (hc h9 (.slice none 0 0)) 30)) Try.underlying30 rfl info30 ?_))
  refine (move_yes h9 (.slice none 0 0) 0 1 5 _ r0.out s015 rfl).mono ?_
  rintro e w2 ⟨rfl, hb2⟩
  have hH := hkeep hb2 (hnew w1 (.cells (hc h9 (.slice none 0 0)) 30))
  replace hH := hold hH (.cells (hc h5 (.slice none 0 0)) 30)
  have hX := hnew w2 (.cells (hc h5 (.slice none 0 0)) 30)
  have hB : Below w.heap.size w (w2.alloc (.cells (hc h5 (.slice none 0 0)) 30)) := (bstep (hb1.alloc hb1.size _) (by have := hb1.size; simp; omega) hb2).alloc (by have := hb1.size; have := hb2.size; simp at this; omega) _
  clear hb1 hb2
  replace hB := Lib.hid hB
  go_wp2_with (first | go_skip | (refine st_new 30 _ _ rfl _ 30 _ rfl rfl rfl (hc h5 (.slice none 0 0)) rfl info30 rfl (hc_one _ _ rfl) ?_) | (refine ld_row 30 _ rfl rfl _ rfl _ _ _ _ hH Try.underlying30 rfl info30 ?_))
  have hB := hB.out
  have hs := hB.size
  generalize w2.alloc (.cells (hc h5 (.slice none 0 0)) 30) = W at *
  refine (good_any h9 [] none 0 _ (nilPays _)).mono ?_
  rintro e w3 ⟨rfl, hb3⟩
  have hB3 := bstep hB hs hb3
  have hH3 := hkeep hb3 hH
  have hX3 := hkeep hb3 hX
  go_wp2_with (first | go_skip | (refine ld_row 30 _ rfl rfl _ rfl _ _ _ _ hH3 Try.underlying30 rfl info30 ?_))
  refine (may_any h9 (.slice none 0 0) 0 1 9 _ r0.out).mono ?_
  rintro e w4 ⟨rfl, hb4⟩
  have hB4 := bstep hB3 hB3.size hb4
  have hH4 := hkeep hb4 hH3
  have hX4 := hkeep hb4 hX3
  go_wp2_with (first | go_skip | (refine ld_row 30 _ rfl rfl _ rfl _ _ _ _ hH4 Try.underlying30 rfl info30 ?_))
  refine (may_any h9 (.slice none 0 0) 0 1 10 _ r0.out).mono ?_
  rintro e w5 ⟨rfl, hb5⟩
  have hB5 := bstep hB4 hB4.size hb5
  have hX5 := hkeep hb5 hX4
  have hc5 := cells_at hX5
  go_wp2_with (first | go_skip | (refine ld_row 30 _ rfl rfl _ rfl _ _ _ _ hX5 Try.underlying30 rfl info30 ?_))
  refine (net_any h5 (.slice none 0 0) 1 0 _ (by omega) (by omega) (by omega) (by omega) r5.out).mono ?_
  rintro e w6 ⟨rfl, hb6⟩
  have hB6 := bstep hB5 hB5.size hb6
  have hX6 := hkeep hb6 hX5
  have n1 : h5.sent 1 0 - h5.sent 0 1 = -5 := rfl
  rw [n1]
  go_wp2_with (first | go_skip | (refine ld_row 30 _ rfl rfl _ rfl _ _ _ _ hX6 Try.underlying30 rfl info30 ?_))
  refine (sum_any h5 (.slice none 0 0) _ (fun i h0 h1 => by rcases four ⟨h0, h1⟩ with rfl | rfl | rfl | rfl <;> decide)).mono ?_
  rintro e w7 ⟨rfl, hb7⟩
  have n2 : h5.total = 9 := rfl
  rw [n2]
  go_wp2_with fail
  go_ret
  exact ⟨rfl, bstep hB6 hB6.size hb7⟩
end Go.Proofs.Ytggfdkkhlokmlaa

