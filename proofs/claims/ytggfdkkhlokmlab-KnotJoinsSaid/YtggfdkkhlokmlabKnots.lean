/- The small runs that ask whether package knot answers at all. -/
import Derived.Test.YtggfdkkhlokmlabCUnt
import Derived.Test.YtggfdkkhlokmlabQueues
namespace Go.Proofs.Ytggfdkkhlokmlab
open Go.RowKit
/-- Two banks that owe each other 9, and have nothing. -/
def hk : Hs := Hs.new.setNext 2
def k2 : List Pay := [⟨0, 1, 9, 0, 1, 1⟩, ⟨1, 0, 9, 0, 1, 0⟩]
theorem hk_good : GoodP hk k2 := ⟨by decide, by decide, fun i _ _ => by
    have := newBank i
    exact ⟨this.has, this.cr, fun k k0 k1 => ⟨(this.cells k k0 k1).s, (this.cells k k0 k1).l, (this.cells k k0 k1).3⟩⟩, by decide, by decide⟩
theorem one_ofL {l : List Pay} {b : Int} {i : Nat} (h : waits l b = [i]) : ofL l b = [i] := by
  have h1 := (ofL_is l b).perm
  rw [h] at h1
  exact List.perm_singleton.1 h1
theorem k2_0 : ofL k2 0 = [0] := one_ofL (by decide)
theorem k2_1 : ofL k2 1 = [1] := one_ofL (by decide)
theorem k2_2 : ofL k2 2 = [] := q_none (by decide)
theorem k2_3 : ofL k2 3 = [] := q_none (by decide)
theorem k2_after : after k2 (fun b => (ofL k2 b).length) hk = moves k2 [0, 1] hk := by
  simp [after, firsts, k2_0, k2_1, k2_2, k2_3]
theorem k2_stands (b : Nat) (hb : b < 4) : Stands (moves k2 [0, 1] hk) (b : Int) :=
  ⟨by match b, hb with
      | 0, _ => decide
      | 1, _ => decide
      | 2, _ => decide
      | 3, _ => decide, fun t t0 t1 h => by
    exfalso
    have e : (moves k2 [0, 1] hk).lim (b : Int) t = -1 := by rw [moves_lim]; rfl
    rw [e] at h
    omega⟩
theorem k2_most (b : Int) (h0 : 0 ≤ b) (h1 : b < 4) : mostOf hk k2 b = (ofL k2 b).length :=
  ((Up.start hk k2).is hk_good.allPay (fun c c0 c1 => .inr (by
    rw [k2_after]
    obtain ⟨j, rfl⟩ := Int.eq_ofNat_of_zero_le c0
    exact k2_stands j (by omega))) h0 h1).symm
theorem k2_mostN : nc (mostN hk k2) = #[.int .i64 1, .int .i64 1, .int .i64 0, .int .i64 0] := by
  have e : ∀ b : Nat, b < 4 → mostN hk k2 b = ((ofL k2 (b : Int)).length : Int) := fun b hb => by
    rw [mostN, if_pos (goodB_yes hk_good), k2_most _ (by omega) (by omega)]
  simp only [nc, e 0 (by omega), e 1 (by omega), e 2 (by omega), e 3 (by omega)]
  rw [show ((0 : Nat) : Int) = 0 from rfl, show ((1 : Nat) : Int) = 1 from rfl, show ((2 : Nat) : Int) = 2 from rfl, show ((3 : Nat) : Int) = 3 from rfl, k2_0, k2_1, k2_2, k2_3]
  rfl
def K2 : St := settleAll [0, 1] ⟨hk, k2, []⟩
theorem k2_untie : untieS hk k2 = K2 := by
  rw [untieS, if_pos (goodB_yes hk_good)]
  have e : firsts k2 (mostOf hk k2) 4 = [0, 1] := by
    rw [firsts_congr k2 (n := mostOf hk k2) (m := fun b => (ofL k2 b).length) (fun b h0 h1 => k2_most b h0 h1)]
    simp [firsts, k2_0, k2_1, k2_2, k2_3]
  rw [e]; rfl
theorem hc_hk : (hc Hs.new (.slice none 0 0)).setIfInBounds 41 (.int .i64 2) = hc hk (.slice none 0 0) := rfl
theorem hc_hkP (s : Value) : (hc hk (.slice none 0 0)).setIfInBounds 40 s = hc hk s := rfl
theorem k2_row (w : World) : PaysAt (w.alloc (.cells #[.int .i64 0, .int .i64 1, .int .i64 9, .int .i64 0, .int .i64 1, .int .i64 1, .int .i64 1, .int .i64 0, .int .i64 9, .int .i64 0, .int .i64 1, .int .i64 0] 70)) (some ⟨w.heap.size, 0, none⟩) 2 k2 :=
  PaysAt.of_row (hnew w _) (by decide) (by decide) (by decide) (fun j p hj k v hk => by
    have h1 := flat_get k2 j p hj k v hk
    rw [← h1, ← Array.getElem?_toList]
    rfl)
theorem eql_1100 : ∀ w : World, (binOp .eql 25 (.agg #[.int .i64 1, .int .i64 1, .int .i64 0, .int .i64 0]) (.agg #[.int .i64 1, .int .i64 1, .int .i64 0, .int .i64 0])).run Try.prog w = .ok (.bool true) w := fun w => by kernel_rfl
attribute [local go_sem high] eql_1100
attribute [local go_sem] hc_pays hc_next hc_size hc_hk hc_hkP
set_option maxRecDepth 100000 in
set_option maxHeartbeats 1000000 in
theorem knotsK_any (w : World) : Calls Try.prog 16 #[] w fun e w' => e = .returned (.bool true) ∧ Below w.heap.size w w' := by
  go_enter Try.func16, Try.ntmps16
  go_wp2_with fail
  refine (new_any _).mono ?_
  rintro e w1 ⟨rfl, hb1⟩
  have hgX := hold (hnew w1 (.cells (hc hk (.slice (some ⟨w1.heap.size + 1, 0, none⟩) 2 2)) 29)) (.cells #[.int .i64 0, .int .i64 1, .int .i64 9, .int .i64 0, .int .i64 1, .int .i64 1, .int .i64 1, .int .i64 0, .int .i64 9, .int .i64 0, .int .i64 1, .int .i64 0] 70)
  have hpX := k2_row (w1.alloc (.cells (hc hk (.slice (some ⟨w1.heap.size + 1, 0, none⟩) 2 2)) 29))
  rw [alloc_sz] at hpX
  have hBX := (hb1.alloc hb1.size (.cells (hc hk (.slice (some ⟨w1.heap.size + 1, 0, none⟩) 2 2)) 29)).alloc (by simp; have := hb1.size; omega) (.cells #[.int .i64 0, .int .i64 1, .int .i64 9, .int .i64 0, .int .i64 1, .int .i64 1, .int .i64 1, .int .i64 0, .int .i64 9, .int .i64 0, .int .i64 1, .int .i64 0] 70)
  have cS := untie_any hk k2 (some ⟨w1.heap.size + 1, 0, none⟩) 2 _ hpX
  rw [k2_untie] at cS
  replace cS := Lib.hid cS
  go_wp2_with (first | go_skip | (refine st_new 29 _ _ rfl _ 29 _ rfl rfl rfl (hc Hs.new (.slice none 0 0)) rfl info30 rfl (hc_one _ _ rfl) ?_) | (refine ld_row 29 _ rfl rfl _ rfl _ _ _ _ hgX Try.underlying29 rfl info30 ?_))
  refine cS.out.mono ?_
  rintro e w2 ⟨⟨a2, cap2, v, rfl, hp2, hown⟩, hb2⟩
  obtain ⟨av, capv, rfl, _, _⟩ := hown.at_
  have hnl : (nats K2.d).length = 2 := rfl
  rw [hnl]
  have hgX2 := hold (hkeep hb2 hgX) (.cells (hc K2.h (.slice a2 K2.l.length cap2)) 29)
  have hgY := hnew w2 (.cells (hc K2.h (.slice a2 K2.l.length cap2)) 29)
  have hpX2 := (hpX.below hb2).alloc (.cells (hc K2.h (.slice a2 K2.l.length cap2)) 29)
  have hpY := hp2.alloc (.cells (hc K2.h (.slice a2 K2.l.length cap2)) 29)
  have hB2 := hBX.trans (hb2.mono hBX.size)
  have hBY := hB2.alloc hB2.size (.cells (hc K2.h (.slice a2 K2.l.length cap2)) 29)
  have cM := most_any hk k2 (some ⟨w1.heap.size + 1, 0, none⟩) 2 _ hpX2
  unfold MostPost at cM
  rw [k2_mostN] at cM
  replace hgX := Lib.hid hgX
  replace hBX := Lib.hid hBX
  replace hnl := Lib.hid hnl
  replace hp2 := Lib.hid hp2
  replace hpX := Lib.hid hpX
  replace hpX2 := Lib.hid hpX2
  replace hpY := Lib.hid hpY
  replace hown := Lib.hid hown
  replace cM := Lib.hid cM
  replace hB2 := Lib.hid hB2
  replace hBY := Lib.hid hBY
  replace hgY := Lib.hid hgY
  go_wp2_with (first | go_skip | (refine st_new 29 _ _ rfl _ 29 _ rfl rfl rfl _ rfl info30 rfl (hc_one _ _ rfl) ?_) | (refine ld_row 29 _ rfl rfl _ rfl _ _ _ _ hgX2 Try.underlying29 rfl info30 ?_))
  refine cM.out.mono ?_
  rintro e w3 ⟨rfl, hb3⟩
  have hpZ := hpY.out.below hb3
  obtain ⟨bp, op, rfl, _, _⟩ := hpZ.row (by decide)
  obtain ⟨x0, x1, x2, x3, x4, x5⟩ := hpZ.six (i := 0) (p := payAt K2.l 0) rfl
  have hst : (payAt K2.l 0).st = 2 := by decide
  rw [hst] at x4
  rw [Nat.zero_mul, Nat.add_zero] at x4
  have hcY := cells_at (hkeep hb3 hgY.out)
  have hk2l : (0 : Int) < (K2.l.length : Int) := by decide
  clear x0 x1 x2 x3 x5
  replace hpZ := Lib.hid hpZ
  replace hst := Lib.hid hst
  go_wp2_with fail
  go_ret
  exact ⟨rfl, hBY.out.trans (hb3.mono hBY.out.size)⟩
end Go.Proofs.Ytggfdkkhlokmlab

