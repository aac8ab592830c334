/- The small run that asks whether package queue answers at all. -/
import Derived.Test.YtggfdkkhlokmlabCSwp
import Derived.Test.YtggfdkkhlokmlabLedgers
namespace Go.Proofs.Ytggfdkkhlokmlab
open Go.RowKit
/-- A house in which bank 0 has 9, owes them to bank 1, which owes 4 to bank 2. -/
def hq : Hs := h9.setNext 2
def q2 : List Pay := [⟨0, 1, 9, 0, 1, 1⟩, ⟨1, 2, 4, 0, 1, 0⟩]
theorem hq_good : GoodP hq q2 := ⟨by decide, by decide, fun i _ _ => by
    have := h9_bank i
    exact ⟨this.has, this.cr, fun k k0 k1 => ⟨(this.cells k k0 k1).s, (this.cells k k0 k1).l, (this.cells k k0 k1).3⟩⟩, by decide, by decide⟩
def Q0 : St := ⟨hq, q2, []⟩
def Q2 : St := (Q0.settle 0).settle 1
theorem q2_waits0 : waits q2 0 = [0] := by decide
theorem q2_ofL : ofL q2 0 = [0] := by
  have h := (ofL_is q2 0).perm
  rw [q2_waits0] at h
  exact List.perm_singleton.1 h
theorem q2_nodup : (q2.map (·.seq)).Nodup := by decide
theorem q1_waits : waits (Q0.settle 0).l 1 = [1] := by decide
theorem q1_waits0 : waits (Q0.settle 0).l 0 = [] := by decide
theorem q1_ofL : ofL (Q0.settle 0).l 1 = [1] := by
  have h := (ofL_is (Q0.settle 0).l 1).perm
  rw [q1_waits] at h
  exact List.perm_singleton.1 h
theorem q_none {l : List Pay} {b : Int} (h : waits l b = []) : ofL l b = [] := by
  have h1 := (ofL_is l b).perm
  rw [h] at h1
  exact h1.eq_nil
theorem q2_rests : Rests Q2 := fun b hb i xs h => by
  have : ofL Q2.l (b : Int) = [] := q_none (by
    match b, hb with
    | 0, _ => decide
    | 1, _ => decide
    | 2, _ => decide
    | 3, _ => decide)
  rw [this] at h; cases h
theorem q2_visits : visits 2 Q0 = Q2 := by
  have h1 : visits 1 Q0 = Q0.settle 0 := by
    show visit ((0 % 4 : Nat) : Int) Q0 = _
    rw [visit_yes (b := ((0 % 4 : Nat) : Int)) q2_nodup q2_ofL (by decide), visit_nil (b := ((0 % 4 : Nat) : Int)) (q_none q1_waits0)]
  show visit ((1 % 4 : Nat) : Int) (visits 1 Q0) = _
  rw [h1, visit_yes (b := ((1 % 4 : Nat) : Int)) (by decide) q1_ofL (by decide), visit_nil (b := ((1 % 4 : Nat) : Int)) (q_none (by decide))]
  rfl
theorem q2_sweep : sweepG hq q2 = Q2 := by
  rw [sweepG, if_pos (goodB_yes hq_good)]
  have h := sweep_of_rests (S := Q0) (k := 2) q2_nodup (by rw [q2_visits]; exact q2_rests)
  rw [q2_visits] at h
  exact h.symm
theorem hc_hq : (hc h9 (.slice none 0 0)).setIfInBounds 41 (.int .i64 2) = hc hq (.slice none 0 0) := rfl
theorem hc_hqP (s : Value) : (hc hq (.slice none 0 0)).setIfInBounds 40 s = hc hq s := rfl
theorem hc_Q2 (s : Value) : (hc Q2.h s)[2]? = some (.int .i64 5) := rfl
theorem q2_row (w : World) : PaysAt (w.alloc (.cells #[.int .i64 0, .int .i64 1, .int .i64 9, .int .i64 0, .int .i64 1, .int .i64 1, .int .i64 1, .int .i64 2, .int .i64 4, .int .i64 0, .int .i64 1, .int .i64 0] 70)) (some ⟨w.heap.size, 0, none⟩) 2 q2 :=
  PaysAt.of_row (hnew w _) (by decide) (by decide) (by decide) (fun j p hj k v hk => by
    have h1 := flat_get q2 j p hj k v hk
    rw [← h1, ← Array.getElem?_toList]
    rfl)
attribute [local go_sem] hc_pays hc_next hc_size hc_h9 hc_hq hc_hqP hc_Q2
end Go.Proofs.Ytggfdkkhlokmlab

