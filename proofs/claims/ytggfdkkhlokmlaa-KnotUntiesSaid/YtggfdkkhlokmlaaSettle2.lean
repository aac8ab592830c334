/- queue.Settle and the reference's SettlePay at whatever payment. -/
import Derived.Test.YtggfdkkhlokmlaaSettle
import Derived.Test.YtggfdkkhlokmlaaCopy
import Derived.Test.YtggfdkkhlokmlaaPayFns
namespace Go.Proofs.Ytggfdkkhlokmlaa
open Go.RowKit
attribute [local go_sem] hc_pays hc_next hc_size pc_0 pc_1 pc_2 pc_3 pc_4 pc_5
def SamePost (h : Hs) (s : Value) (w : World) (e : Ending) (w' : World) : Prop := e = .returned (.agg (hc h s)) ∧ Below w.heap.size w w'
set_option maxRecDepth 100000 in
set_option maxHeartbeats 4000000 in
theorem settle_no (h : Hs) (l : List Pay) (a : Option Addr) (cap : Nat) (n : Int) (w : World) (hp : PaysAt w a cap l) (hn : ¬ (0 ≤ n ∧ n < l.length ∧ (payAt l n.toNat).st = 1)) :
    Calls Try.prog 48 #[.agg (hc h (.slice a l.length cap)), .int .i64 n] w (SamePost h (.slice a l.length cap) w) := by
  have hml : (l.length : Int) ≤ 9223372036854775807 := by have h1 := hp.le; have h2 := hp.capm; unfold maxLen at h2; omega
  have h1 : (Value.slice a l.length cap).oneCell' = true := rfl
  by_cases n0 : n < 0
  · clear hp hn
    go_enter Try.func48, Try.ntmps48
    go_wp2_with (first | go_skip | (refine ld_row 30 _ rfl rfl _ rfl _ _ _ _ (heap_alloc2_old _ _ _) Try.underlying30 rfl info30 ?_) | (refine st_row 30 _ _ rfl rfl _ rfl _ rfl _ _ (heap_alloc2_new _ _ _) info30 rfl (hc_one _ _ h1) ?_; intro w' hr hgr hsz))
    refine bodyPost_ret (results_house rfl _ _ _ _ _ rfl hr) rfl ⟨rfl, ?_⟩
    exact (((Below.refl _ _).alloc (Nat.le_refl _) _).alloc (by simp) _).grown hgr (by simp; omega) (fun k hk => by cases hk; omega)
  · by_cases n1 : n < l.length
    · obtain ⟨i, rfl⟩ : ∃ i : Nat, n = i := ⟨n.toNat, by omega⟩
      have hi : i < l.length := by omega
      have hst : (payAt l i).st ≠ 1 := fun e => hn ⟨by omega, n1, by simpa using e⟩
      have hpi := payAt_get hi
      obtain ⟨p, ep⟩ : ∃ p, payAt l i = p := ⟨_, rfl⟩
      rw [ep] at hst hpi
      obtain ⟨b, o, rfl, _, _⟩ := hp.row (by omega)
      have hdi : decide (l.length ≤ i) = false := decide_eq_false (by omega)
      replace hp := Lib.hid hp
      replace ep := Lib.hid ep
      replace hpi := Lib.hid hpi
      clear hn
      go_enter Try.func48, Try.ntmps48
      go_upto_region 1 with fail
      generalize hW : World.alloc (World.alloc w _) _ = W0
      have hgA : W0.heap[w.heap.size]? = some (.cells (hc h (.slice (some ⟨b, o, none⟩) l.length cap)) 30 (0, 0)) := by rw [← hW]; exact heap_alloc2_old w _ _
      have hgZ : W0.heap[w.heap.size + 1]? = some (.cells (hc Hs.zero (.slice none 0 0)) 30 (0, 0)) := by rw [← hW]; exact heap_alloc2_new w _ _
      have hB : Below w.heap.size w W0 := by rw [← hW]; exact ((Below.refl w.heap.size w).alloc (Nat.le_refl _) _).alloc (by simp) _
      have hp2 := hp.out.below hB
      clear hW
      obtain ⟨x0, x1, x2, x3, x4, x5⟩ := hp2.six hpi.out
      have hcl := cells_at hgA
      clear x0 x1 x2 x3 x5 hp2
      go_wp2_with (first | go_skip | (refine ld_row 30 _ rfl rfl _ rfl _ _ _ _ hgA Try.underlying30 rfl info30 ?_) | (refine st_row 30 _ _ rfl rfl _ rfl _ rfl _ _ hgZ info30 rfl (hc_one _ _ h1) ?_; intro w' hr hgr hsz))
      refine bodyPost_ret (results_house rfl _ _ _ _ _ rfl hr) rfl ⟨rfl, ?_⟩
      exact hB.grown hgr hB.size (fun k hk => by cases hk; omega)
    · clear hp hn
      have n2 : (l.length : Int) ≤ n := by omega
      go_enter Try.func48, Try.ntmps48
      go_wp2_with (first | go_skip | (refine ld_row 30 _ rfl rfl _ rfl _ _ _ _ (heap_alloc2_old _ _ _) Try.underlying30 rfl info30 ?_) | (refine st_row 30 _ _ rfl rfl _ rfl _ rfl _ _ (heap_alloc2_new _ _ _) info30 rfl (hc_one _ _ h1) ?_; intro w' hr hgr hsz))
      refine bodyPost_ret (results_house rfl _ _ _ _ _ rfl hr) rfl ⟨rfl, ?_⟩
      exact (((Below.refl _ _).alloc (Nat.le_refl _) _).alloc (by simp) _).grown hgr (by simp; omega) (fun k hk => by cases hk; omega)
/-- What settling payment n makes of a house. -/
def settleH (h : Hs) (l : List Pay) (n : Int) : Hs := if 0 ≤ n ∧ n < l.length ∧ (payAt l n.toNat).st = 1 then h.move (payAt l n.toNat).frm (payAt l n.toNat).to (payAt l n.toNat).amt else h
def settleL (l : List Pay) (n : Int) : List Pay := if 0 ≤ n ∧ n < l.length ∧ (payAt l n.toNat).st = 1 then settled l n.toNat else l
theorem settleL_len (l : List Pay) (n : Int) : (settleL l n).length = l.length := by unfold settleL; split <;> simp [settled]
def HPost (h : Hs) (l : List Pay) (w : World) (e : Ending) (w' : World) : Prop := (∃ a cap, e = .returned (.agg (hc h (.slice a l.length cap))) ∧ PaysAt w' a cap l) ∧ Below w.heap.size w w'
theorem settle_any (h : Hs) (l : List Pay) (a : Option Addr) (cap : Nat) (n : Int) (w : World) (hp : PaysAt w a cap l) (hr : h.Room) :
    Calls Try.prog 48 #[.agg (hc h (.slice a l.length cap)), .int .i64 n] w (HPost (settleH h l n) (settleL l n) w) := by
  by_cases hn : 0 ≤ n ∧ n < l.length ∧ (payAt l n.toNat).st = 1
  · obtain ⟨i, rfl⟩ : ∃ i : Nat, n = i := ⟨n.toNat, by omega⟩
    have e1 : settleH h l i = h.move (payAt l i).frm (payAt l i).to (payAt l i).amt := by rw [settleH, if_pos hn]; simp
    have e2 : settleL l i = settled l i := by rw [settleL, if_pos hn]; simp
    rw [e1, e2]
    exact (settle_yes h l a cap i w hp hr (by omega) (by simpa using hn.2.2)).mono fun e w' ⟨⟨a', cap', he, hp', _⟩, hb⟩ => ⟨⟨a', cap', he, hp'⟩, hb⟩
  · have e1 : settleH h l n = h := by rw [settleH, if_neg hn]
    have e2 : settleL l n = l := by rw [settleL, if_neg hn]
    rw [e1, e2]
    exact (settle_no h l a cap n w hp hn).mono fun e w' ⟨he, hb⟩ => ⟨⟨a, cap, he, hp.below hb⟩, hb⟩
end Go.Proofs.Ytggfdkkhlokmlaa
