/- Sum; New and the reference's NewHouse. -/
import Derived.Test.YtggfdkkhlokmlaaMoveSum
namespace Go.Proofs.Ytggfdkkhlokmlaa
open Go.RowKit

def ac (h : Hs) (k : Int) : Array Value := #[.int .i64 (h.has k), .int .i64 (h.cr k)]
theorem index_accs (h : Hs) (k : Nat) (hk : k < 4) (w : World) : (Instr.index 25 (.agg (accs h)) (.int .i64 (k : Int))).run Try.prog w = .ok (.agg #[.int .i64 (h.has k), .int .i64 (h.cr k)]) w := by
  rcases k with _ | _ | _ | _ | k
  · kernel_rfl
  · kernel_rfl
  · kernel_rfl
  · kernel_rfl
  · omega
/-- The sum of what the first k banks have. -/
def sumTo (h : Hs) : Nat → Int
  | 0 => 0
  | k + 1 => sumTo h k + h.has k
def Hs.total (h : Hs) : Int := sumTo h 4
theorem sumTo_bound (h : Hs) (hr : ∀ i, 0 ≤ i → i < 4 → -1152921504606846976 ≤ h.has i ∧ h.has i ≤ 1152921504606846976) : ∀ k : Nat, k ≤ 4 → -(1152921504606846976 * (k : Int)) ≤ sumTo h k ∧ sumTo h k ≤ 1152921504606846976 * (k : Int)
  | 0, _ => ⟨by simp [sumTo], by simp [sumTo]⟩
  | k + 1, hk => by
    have h1 := sumTo_bound h hr k (by omega)
    have h2 := hr k (by omega) (by omega)
    simp only [sumTo]
    omega
attribute [local go_sem] hc_has hc_cr hc_sent hc_lim hc_pays hc_next hc_size index_accs
attribute [local go_sem low] hc_hasN hc_crN hc_sentN hc_limN

set_option maxHeartbeats 1000000 in
theorem sum_any (h : Hs) (s : Value) (w : World) (hr : ∀ i, 0 ≤ i → i < 4 → -1152921504606846976 ≤ h.has i ∧ h.has i ≤ 1152921504606846976) :
    Calls Try.prog 26 #[.agg (hc h s)] w fun e w' => e = .returned (.int .i64 h.total) ∧ Below w.heap.size w w' := by
  have fin := Lib.hid (show h.total = sumTo h 4 from rfl)
  have hsb := sumTo_bound h hr
  go_enter Try.func26, Try.ntmps26
  go_wp2_with (refine ld_mid 25 _ rfl rfl _ 0 rfl _ _ (accs h) _ _ (hnew w _) Try.underlying25 rfl info25 (hc_accs h s) ?_)
  go_loopw [3, 8] (fun t i wr => ∃ k : Nat, k ≤ 4 ∧ i = .int .i64 k ∧ t = .int .i64 (sumTo h k) ∧ Below w.heap.size w wr) (fun _ i _ => (4 - intOf i).toNat)
  case atStart => exact ⟨0, by omega, rfl, rfl, (Below.refl _ _).alloc (Nat.le_refl _) _⟩
  case round =>
    obtain ⟨k, hk, rfl, rfl, hb⟩ := hrel
    have hsz := hb.size
    by_cases h4 : k < 4
    · have hr1 := hr k (by omega) (by omega)
      have hs1 := hsb k hk
      have e1 : Hid (sumTo h (k + 1) = sumTo h k + h.has k) := rfl
      clear hr hsb
      go_wp2
      go_roundw
      case rel => exact ⟨k + 1, by omega, by go_num, by rw [e1.out], hb.alloc hsz _⟩
      case measure => simp [intOf]; omega
    · obtain rfl : k = 4 := by omega
      clear hr hsb
      go_wp2
      go_ret
      exact ⟨by rw [fin.out]; rfl, hb⟩
end Go.Proofs.Ytggfdkkhlokmlaa
