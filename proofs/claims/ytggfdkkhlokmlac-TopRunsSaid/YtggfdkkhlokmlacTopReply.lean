/- What is alike of replies, for the statements of the whole. -/
import Derived.Deep.QuietTactic
import Derived.Test.YtggfdkkhlokmlacCSel
namespace Go.Proofs.Ytggfdkkhlokmlac
open Go.RowKit
attribute [local go_sem] rc_0 rc_1 rc_2 rc_size
set_option maxRecDepth 100000 in
set_option maxHeartbeats 1000000 in
theorem topSameReply_eq (c n : Int) (xs : List Nat) (a b : Option Addr) (cap cap' : Nat) (w : World) (ha : IntsAt w a cap (nats xs)) (hb : IntsAt w b cap' (nats xs)) :
    Calls Try.prog 10 #[.agg (rc c n (.slice a xs.length cap)), .agg (rc c n (.slice b xs.length cap'))] w fun e w' => e = .returned (.bool true) ∧ Below w.heap.size w w' := by
  have hgA := heap_alloc2_old w (.cells (rc c n (.slice a xs.length cap)) 32) (.cells (rc c n (.slice b xs.length cap')) 32)
  have hgB := heap_alloc2_new w (.cells (rc c n (.slice a xs.length cap)) 32) (.cells (rc c n (.slice b xs.length cap')) 32)
  have hml : xs.length ≤ 9223372036854775807 := by have h1 := ha.le; have h2 := ha.capm; rw [nats_len] at h1; unfold maxLen at h2; omega
  have hcA := cells_at hgA
  have hcB := cells_at hgB
  go_enter Try.func10, Try.ntmps10
  go_wp2
  clear hcA hcB
  go_loopg [30] xs.length (fun g i wr => ∃ k : Nat, k ≤ xs.length ∧ g = xs.length - k ∧ i = .int .i64 k ∧ wr.heap[w.heap.size]? = some (.cells (rc c n (.slice a xs.length cap)) 32 (0, 0)) ∧ wr.heap[w.heap.size + 1]? = some (.cells (rc c n (.slice b xs.length cap')) 32 (0, 0)) ∧ Below w.heap.size w wr)
  case atStart => exact ⟨0, by omega, rfl, rfl, hgA, hgB, ((Below.refl _ _).alloc (Nat.le_refl _) _).alloc (by simp) _⟩
  case round =>
    clear hgA hgB
    obtain ⟨k, hk, rfl, rfl, hgA, hgB, hbw⟩ := hrel
    by_cases h4 : k < xs.length
    · obtain ⟨p, hpk⟩ : ∃ p, (nats xs)[k]? = some p := ⟨(nats xs)[k]'(by rw [nats_len]; exact h4), List.getElem?_eq_getElem (by rw [nats_len]; exact h4)⟩
      obtain ⟨b1, o1, rfl, hl1, hc1⟩ := ha.row (by rw [nats_len]; omega)
      obtain ⟨b2, o2, rfl, hl2, hc2⟩ := hb.row (by rw [nats_len]; omega)
      have x0 := (hbw.cell (p := ⟨b1, o1 + k, none⟩) hl1).trans (hc1 k p hpk)
      have y0 := (hbw.cell (p := ⟨b2, o2 + k, none⟩) hl2).trans (hc2 k p hpk)
      have a2 : wr.cell? ⟨w.heap.size, 2, none⟩ = some (.slice (some ⟨b1, o1, none⟩) xs.length cap) := cells_at hgA 2
      have b2' : wr.cell? ⟨w.heap.size + 1, 2, none⟩ = some (.slice (some ⟨b2, o2, none⟩) xs.length cap') := cells_at hgB 2
      have hkl : (k : Int) < (xs.length : Int) := by omega
      have hbn : ∀ q, Below w.heap.size w (wr.drewN q) := fun q => below_drewN hbw q
      have hgAn : ∀ q, (wr.drewN q).heap[w.heap.size]? = some (.cells (rc c n (.slice (some ⟨b1, o1, none⟩) xs.length cap)) 32 (0, 0)) := fun q => hgA
      have hgBn : ∀ q, (wr.drewN q).heap[w.heap.size + 1]? = some (.cells (rc c n (.slice (some ⟨b2, o2, none⟩) xs.length cap')) 32 (0, 0)) := fun q => hgB
      replace hbn := Lib.hid hbn
      replace hgAn := Lib.hid hgAn
      replace hgBn := Lib.hid hgBn
      clear ha hb hpk hc1 hc2 hgA hgB
      go_wp2
      go_big_quiet (fail)
      go_wp2
      go_roundg (xs.length - (k + 1))
      case measure => omega
      case rel => exact ⟨k + 1, by omega, rfl, by go_num, hgAn.out _, hgBn.out _, hbn.out _⟩
    · have hd : decide ((k : Int) < xs.length) = false := by simp; omega
      go_wp2
      go_ret
      exact ⟨rfl, hbw⟩
end Go.Proofs.Ytggfdkkhlokmlac

