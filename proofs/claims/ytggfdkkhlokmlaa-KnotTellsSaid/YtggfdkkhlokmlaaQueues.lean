/- The small run that asks whether package queue answers at all. -/
import Derived.Test.YtggfdkkhlokmlaaCSwp
import Derived.Test.YtggfdkkhlokmlaaLedgers
namespace Go.Proofs.Ytggfdkkhlokmlaa
open Go.RowKit
/-- A house in which bank 0 has 9, owes them to bank 1, which owes 4 to bank 2. -/
def hq : Hs := h9.setNext 2
def q2 : List Pay := [⟨0, 1, 9, 0, 1, 1⟩, ⟨1, 2, 4, 0, 1, 0⟩]
theorem hq_good : GoodP hq q2 := ⟨by decide, by decide, fun i _ _ => by
    have := h9_bank i
    exact ⟨this.has, this.cr, fun k k0 k1 => ⟨(this.cells k k0 k1).s, (this.cells k k0 k1).l, (this.cells k k0 k1).3⟩⟩, by decide, by decide⟩
def Q0 : St := ⟨hq, q2, []⟩
def Q2 : St := (Q0.settle 0).settle 1
theorem q2_waits0 : waits q2 0 = [0] := by decide
theorem q2_ofL : ofL q2 0 = [0] := by
  have h := (ofL_is q2 0).perm
  rw [q2_waits0] at h
  exact List.perm_singleton.1 h
theorem q2_nodup : (q2.map (·.seq)).Nodup := by decide
theorem q1_waits : waits (Q0.settle 0).l 1 = [1] := by decide
theorem q1_waits0 : waits (Q0.settle 0).l 0 = [] := by decide
theorem q1_ofL : ofL (Q0.settle 0).l 1 = [1] := by
  have h := (ofL_is (Q0.settle 0).l 1).perm
  rw [q1_waits] at h
  exact List.perm_singleton.1 h
theorem q_none {l : List Pay} {b : Int} (h : waits l b = []) : ofL l b = [] := by
  have h1 := (ofL_is l b).perm
  rw [h] at h1
  exact h1.eq_nil
theorem q2_rests : Rests Q2 := fun b hb i xs h => by
  have : ofL Q2.l (b : Int) = [] := q_none (by
    match b, hb with
    | 0, _ => decide
    | 1, _ => decide
    | 2, _ => decide
    | 3, _ => decide)
  rw [this] at h; cases h
theorem q2_visits : visits 2 Q0 = Q2 := by
  have h1 : visits 1 Q0 = Q0.settle 0 := by
    show visit ((0 % 4 : Nat) : Int) Q0 = _
    rw [visit_yes (b := ((0 % 4 : Nat) : Int)) q2_nodup q2_ofL (by decide), visit_nil (b := ((0 % 4 : Nat) : Int)) (q_none q1_waits0)]
  show visit ((1 % 4 : Nat) : Int) (visits 1 Q0) = _
  rw [h1, visit_yes (b := ((1 % 4 : Nat) : Int)) (by decide) q1_ofL (by decide), visit_nil (b := ((1 % 4 : Nat) : Int)) (q_none (by decide))]
  rfl
theorem q2_sweep : sweepG hq q2 = Q2 := by
  rw [sweepG, if_pos (goodB_yes hq_good)]
  have h := sweep_of_rests (S := Q0) (k := 2) q2_nodup (by rw [q2_visits]; exact q2_rests)
  rw [q2_visits] at h
  exact h.symm
theorem hc_hq : (hc h9 (.slice none 0 0)).setIfInBounds 41 (.int .i64 2) = hc hq (.slice none 0 0) := rfl
theorem hc_hqP (s : Value) : (hc hq (.slice none 0 0)).setIfInBounds 40 s = hc hq s := rfl
theorem hc_Q2 (s : Value) : (hc Q2.h s)[2]? = some (.int .i64 5) := rfl
theorem q2_row (w : World) : PaysAt (w.alloc (.cells #[.int .i64 0, .int .i64 1, .int .i64 9, .int .i64 0, .int .i64 1, .int .i64 1, .int .i64 1, .int .i64 2, .int .i64 4, .int .i64 0, .int .i64 1, .int .i64 0] 36)) (some ⟨w.heap.size, 0, none⟩) 2 q2 :=
  PaysAt.of_row (hnew w _) (by decide) (by decide) (by decide) (fun j p hj k v hk => by
    have h1 := flat_get q2 j p hj k v hk
    rw [← h1, ← Array.getElem?_toList]
    rfl)
attribute [local go_sem] hc_pays hc_next hc_size hc_h9 hc_hq hc_hqP hc_Q2
set_option maxRecDepth 100000 in
set_option maxHeartbeats 1000000 in
theorem queuesL_any (w : World) : Calls Try.prog 45 #[] w fun e w' => e = .returned (.bool true) ∧ Below w.heap.size w w' := by
  go_enter Try.func45, Try.ntmps45
  go_wp2_with fail
  refine (new_any _).mono ?_
  rintro e w1 ⟨rfl, hb1⟩
  have hgX := hold (hnew w1 (.cells (hc hq (.slice (some ⟨w1.heap.size + 1, 0, none⟩) 2 2)) 30)) (.cells #[.int .i64 0, .int .i64 1, .int .i64 9, .int .i64 0, .int .i64 1, .int .i64 1, .int .i64 1, .int .i64 2, .int .i64 4, .int .i64 0, .int .i64 1, .int .i64 0] 36)
  have hpX := q2_row (w1.alloc (.cells (hc hq (.slice (some ⟨w1.heap.size + 1, 0, none⟩) 2 2)) 30))
  rw [alloc_sz] at hpX
  have hBX := (hb1.alloc hb1.size (.cells (hc hq (.slice (some ⟨w1.heap.size + 1, 0, none⟩) 2 2)) 30)).alloc (by simp; have := hb1.size; omega) (.cells #[.int .i64 0, .int .i64 1, .int .i64 9, .int .i64 0, .int .i64 1, .int .i64 1, .int .i64 1, .int .i64 2, .int .i64 4, .int .i64 0, .int .i64 1, .int .i64 0] 36)
  have cS := sweep_any hq q2 (some ⟨w1.heap.size + 1, 0, none⟩) 2 _ hpX
  rw [q2_sweep] at cS
  replace cS := Lib.hid cS
  replace hpX := Lib.hid hpX
  go_wp2_with (first | go_skip | (refine st_new 30 _ _ rfl _ 30 _ rfl rfl rfl (hc Hs.new (.slice none 0 0)) rfl info30 rfl (hc_one _ _ rfl) ?_) | (refine ld_row 30 _ rfl rfl _ rfl _ _ _ _ hgX Try.underlying30 rfl info30 ?_))
  refine cS.out.mono ?_
  rintro e w2 ⟨⟨a2, cap2, v, rfl, hp2, hown⟩, hb2⟩
  obtain ⟨av, capv, rfl, _, _⟩ := hown.at_
  have hnl : (nats Q2.d).length = 2 := rfl
  rw [hnl]
  have hgY := hnew w2 (.cells (hc Q2.h (.slice a2 Q2.l.length cap2)) 30)
  have hcY := cells_at hgY
  have hpY := hp2.alloc (.cells (hc Q2.h (.slice a2 Q2.l.length cap2)) 30)
  have hB2 := hBX.trans (hb2.mono hBX.size)
  have hBY := hB2.alloc hB2.size (.cells (hc Q2.h (.slice a2 Q2.l.length cap2)) 30)
  have cO := of_any Q2.h Q2.l a2 cap2 0 _ hpY
  have hw0 : waits Q2.l 0 = [] := by decide
  replace hgX := Lib.hid hgX
  replace hBX := Lib.hid hBX
  replace hnl := Lib.hid hnl
  replace hp2 := Lib.hid hp2
  replace hpY := Lib.hid hpY
  replace hown := Lib.hid hown
  replace cO := Lib.hid cO
  replace hB2 := Lib.hid hB2
  replace hBY := Lib.hid hBY
  replace hw0 := Lib.hid hw0
  go_wp2_with (first | go_skip | (refine st_new 30 _ _ rfl _ 30 _ rfl rfl rfl _ rfl info30 rfl (hc_one _ _ rfl) ?_) | (refine ld_row 30 _ rfl rfl _ rfl _ _ _ _ hgY Try.underlying30 rfl info30 ?_))
  refine cO.out.mono ?_
  rintro e w3 ⟨⟨v3, xs, rfl, hq3, hown3⟩, hb3⟩
  obtain rfl : xs = [] := by
    have := hq3.perm
    rw [hw0.out] at this
    exact this.eq_nil
  obtain ⟨a3, cap3, rfl, _, _⟩ := hown3.at_
  have hnl3 : (nats []).length = 0 := rfl
  rw [hnl3]
  replace hq3 := Lib.hid hq3
  replace hown3 := Lib.hid hown3
  replace hnl3 := Lib.hid hnl3
  go_wp2_with fail
  go_ret
  exact ⟨rfl, hBY.out.trans (hb3.mono hBY.out.size)⟩
set_option maxRecDepth 100000 in
set_option maxHeartbeats 1000000 in
theorem queuesK_any (w : World) : Calls Try.prog 53 #[] w fun e w' => e = .returned (.bool true) ∧ Below w.heap.size w w' := by
  go_enter Try.func53, Try.ntmps53
  go_wp2_with fail
  refine (new_any _).mono ?_
  rintro e w1 ⟨rfl, hb1⟩
  have hgX := hold (hnew w1 (.cells (hc hq (.slice (some ⟨w1.heap.size + 1, 0, none⟩) 2 2)) 30)) (.cells #[.int .i64 0, .int .i64 1, .int .i64 9, .int .i64 0, .int .i64 1, .int .i64 1, .int .i64 1, .int .i64 2, .int .i64 4, .int .i64 0, .int .i64 1, .int .i64 0] 36)
  have hpX := q2_row (w1.alloc (.cells (hc hq (.slice (some ⟨w1.heap.size + 1, 0, none⟩) 2 2)) 30))
  rw [alloc_sz] at hpX
  have hBX := (hb1.alloc hb1.size (.cells (hc hq (.slice (some ⟨w1.heap.size + 1, 0, none⟩) 2 2)) 30)).alloc (by simp; have := hb1.size; omega) (.cells #[.int .i64 0, .int .i64 1, .int .i64 9, .int .i64 0, .int .i64 1, .int .i64 1, .int .i64 1, .int .i64 2, .int .i64 4, .int .i64 0, .int .i64 1, .int .i64 0] 36)
  have cS := sweep_any hq q2 (some ⟨w1.heap.size + 1, 0, none⟩) 2 _ hpX
  rw [q2_sweep] at cS
  replace cS := Lib.hid cS
  replace hpX := Lib.hid hpX
  go_wp2_with (first | go_skip | (refine st_new 30 _ _ rfl _ 30 _ rfl rfl rfl (hc Hs.new (.slice none 0 0)) rfl info30 rfl (hc_one _ _ rfl) ?_) | (refine ld_row 30 _ rfl rfl _ rfl _ _ _ _ hgX Try.underlying30 rfl info30 ?_))
  refine cS.out.mono ?_
  rintro e w2 ⟨⟨a2, cap2, v, rfl, hp2, hown⟩, hb2⟩
  obtain ⟨av, capv, rfl, _, _⟩ := hown.at_
  have hnl : (nats Q2.d).length = 2 := rfl
  rw [hnl]
  have hgY := hnew w2 (.cells (hc Q2.h (.slice a2 Q2.l.length cap2)) 30)
  have hcY := cells_at hgY
  have hpY := hp2.alloc (.cells (hc Q2.h (.slice a2 Q2.l.length cap2)) 30)
  have hB2 := hBX.trans (hb2.mono hBX.size)
  have hBY := hB2.alloc hB2.size (.cells (hc Q2.h (.slice a2 Q2.l.length cap2)) 30)
  have cO := of_any Q2.h Q2.l a2 cap2 0 _ hpY
  have hw0 : waits Q2.l 0 = [] := by decide
  replace hgX := Lib.hid hgX
  replace hBX := Lib.hid hBX
  replace hnl := Lib.hid hnl
  replace hp2 := Lib.hid hp2
  replace hpY := Lib.hid hpY
  replace hown := Lib.hid hown
  replace cO := Lib.hid cO
  replace hB2 := Lib.hid hB2
  replace hBY := Lib.hid hBY
  replace hw0 := Lib.hid hw0
  go_wp2_with (first | go_skip | (refine st_new 30 _ _ rfl _ 30 _ rfl rfl rfl _ rfl info30 rfl (hc_one _ _ rfl) ?_) | (refine ld_row 30 _ rfl rfl _ rfl _ _ _ _ hgY Try.underlying30 rfl info30 ?_))
  refine cO.out.mono ?_
  rintro e w3 ⟨⟨v3, xs, rfl, hq3, hown3⟩, hb3⟩
  obtain rfl : xs = [] := by
    have := hq3.perm
    rw [hw0.out] at this
    exact this.eq_nil
  obtain ⟨a3, cap3, rfl, _, _⟩ := hown3.at_
  have hnl3 : (nats []).length = 0 := rfl
  rw [hnl3]
  replace hq3 := Lib.hid hq3
  replace hown3 := Lib.hid hown3
  replace hnl3 := Lib.hid hnl3
  go_wp2_with fail
  go_ret
  exact ⟨rfl, hBY.out.trans (hb3.mono hBY.out.size)⟩
end Go.Proofs.Ytggfdkkhlokmlaa

