/- book.Good and the reference's IsNoted. -/
import Derived.Test.YtggfdkkhlokmlaaBook2
import Derived.Test.YtggfdkkhlokmlaaLedger
namespace Go.Proofs.Ytggfdkkhlokmlaa
open Go.RowKit

/-- The cells of an act. -/
def dc (x : Deed) : Array Value := #[.int .i64 x.kind, .int .i64 x.a, .int .i64 x.b, .int .i64 x.c, .int .i64 x.n]
theorem dc_size (x : Deed) : (dc x).size = 5 := rfl
theorem dc_0 (x : Deed) : (dc x)[0]? = some (.int .i64 x.kind) := rfl
theorem dc_1 (x : Deed) : (dc x)[1]? = some (.int .i64 x.a) := rfl
theorem dc_2 (x : Deed) : (dc x)[2]? = some (.int .i64 x.b) := rfl
theorem dc_3 (x : Deed) : (dc x)[3]? = some (.int .i64 x.c) := rfl
theorem dc_4 (x : Deed) : (dc x)[4]? = some (.int .i64 x.n) := rfl
theorem dc_one (x : Deed) : (dc x).all (·.oneCell') = true := by simp [dc, Value.oneCell']
theorem info44 : (Try.prog.info? 44).map (·.size) = some 5 := by kernel_rfl
def nth (x : Deed) : Nat → Int
  | 0 => x.kind
  | 1 => x.a
  | 2 => x.b
  | 3 => x.c
  | _ => x.n
theorem noted_iff (x : Deed) : noted x = true ↔ ∀ k, k < 5 → notedN (nth x k) = true := by
  constructor
  · intro h k hk
    obtain ⟨h1, h2, h3, h4, h5⟩ := noted_of h
    rcases k with _ | _ | _ | _ | _ | k <;> first | exact h1 | exact h2 | exact h3 | exact h4 | exact h5 | omega
  · intro h
    have h1 := h 0 (by omega); have h2 := h 1 (by omega); have h3 := h 2 (by omega); have h4 := h 3 (by omega); have h5 := h 4 (by omega)
    simp only [nth] at h1 h2 h3 h4 h5
    simp [noted, h1, h2, h3, h4, h5]
theorem index5 (x : Deed) (k : Nat) (hk : k < 5) (w : World) : (Instr.index 75 (.agg #[.int .i64 x.kind, .int .i64 x.a, .int .i64 x.b, .int .i64 x.c, .int .i64 x.n]) (.int .i64 (k : Int))).run Try.prog w = .ok (.int .i64 (nth x k)) w := by
  rcases k with _ | _ | _ | _ | _ | k
  · kernel_rfl
  · kernel_rfl
  · kernel_rfl
  · kernel_rfl
  · kernel_rfl
  · omega
attribute [local go_sem] dc_size dc_0 dc_1 dc_2 dc_3 dc_4 index5

set_option maxHeartbeats 1000000 in
theorem goodAct_any (x : Deed) (w : World) : Calls Try.prog 37 #[.agg (dc x)] w fun e w' => e = .returned (.bool (noted x)) ∧ Below w.heap.size w w' := by
  go_enter Try.func37, Try.ntmps37
  go_wp2
  go_loopg [16] 5 (fun g i wr => ∃ k : Nat, k ≤ 5 ∧ g = 5 - k ∧ i = .int .i64 k ∧ (∀ j, j < k → notedN (nth x j) = true) ∧ wr = w.alloc (.cells (dc x) 44))
  case atStart => exact ⟨0, by omega, rfl, rfl, fun j hj => absurd hj (by omega), rfl⟩
  case round =>
    obtain ⟨k, hk, rfl, rfl, hok, rfl⟩ := hrel
    replace hok := Lib.hid hok
    by_cases h4 : k < 5
    · by_cases h5 : nth x k < -1073741824
      · have fin : noted x = false := by
          cases h : noted x
          · rfl
          · have := of_decide_eq_true ((noted_iff x).1 h k h4); omega
        replace fin := Lib.hid fin
        go_wp2
        go_ret
        exact ⟨by rw [fin.out]; rfl, (Below.refl _ _).alloc (Nat.le_refl _) _⟩
      have hd5 : decide (nth x k < -1073741824) = false := by simpa using h5
      by_cases h6 : 1073741824 < nth x k
      · have fin : noted x = false := by
          cases h : noted x
          · rfl
          · have := of_decide_eq_true ((noted_iff x).1 h k h4); omega
        replace fin := Lib.hid fin
        go_wp2
        go_ret
        exact ⟨by rw [fin.out]; rfl, (Below.refl _ _).alloc (Nat.le_refl _) _⟩
      have hd6 : decide (1073741824 < nth x k) = false := by simpa using h6
      have hn : Hid (notedN (nth x k) = true) := decide_eq_true ⟨by omega, by omega⟩
      go_wp2
      go_roundg (5 - (k + 1))
      case measure => omega
      case rel => exact ⟨k + 1, by omega, rfl, by go_num, fun j hj => if e : j = k then by rw [e]; exact hn.out else hok.out j (by omega), rfl⟩
    · have hd : decide ((k : Int) < 5) = false := by simp; omega
      have fin : noted x = true := (noted_iff x).2 fun j hj => hok.out j (by omega)
      replace fin := Lib.hid fin
      go_wp2
      go_ret
      exact ⟨by rw [fin.out]; rfl, (Below.refl _ _).alloc (Nat.le_refl _) _⟩

theorem dc_nth (x : Deed) (k : Nat) (hk : k < 5) : (dc x)[k]? = some (.int .i64 (nth x k)) := by
  rcases k with _ | _ | _ | _ | _ | k <;> first | rfl | omega
attribute [local go_sem low] dc_nth

set_option maxHeartbeats 1000000 in
set_option maxRecDepth 100000 in
theorem isNoted_any (x : Deed) (w : World) : Calls Try.prog 38 #[.agg (dc x)] w fun e w' => e = .returned (.bool (noted x)) ∧ Below w.heap.size w w' := by
  go_enter Try.func38, Try.ntmps38
  go_wp2
  go_loopg [3, 18] 5 (fun g t i wr => ∃ k : Nat, k ≤ 5 ∧ g = 5 - k ∧ i = .int .i64 k ∧ (∃ b : Bool, t = .bool b ∧ (b = true ↔ ∀ j, j < k → notedN (nth x j) = true)) ∧ wr = (w.alloc (.cells (dc x) 44)).alloc (.cells (dc x) 3))
  case atStart => exact ⟨0, by omega, rfl, rfl, ⟨true, rfl, ⟨fun _ j hj => absurd hj (by omega), fun _ => rfl⟩⟩, rfl⟩
  case round =>
    obtain ⟨k, hk, rfl, rfl, ⟨b, rfl, hb⟩, rfl⟩ := hrel
    replace hb := Lib.hid hb
    by_cases h4 : k < 5
    · cases b
      · go_wp2_with (go_at_call 64; refine (within_any _ _ _ _).mono ?_; rintro e w' ⟨rfl, rfl⟩)
        go_roundg (5 - (k + 1))
        case measure => omega
        case rel => exact ⟨k + 1, by omega, rfl, by go_num, ⟨false, rfl, ⟨nofun, fun c => by have := hb.out.2 (fun j hj => c j (by omega)); cases this⟩⟩, rfl⟩
      · go_wp2_with (go_at_call 64; refine (within_any _ _ _ _).mono ?_; rintro e w' ⟨rfl, rfl⟩)
        go_roundg (5 - (k + 1))
        case measure => omega
        case rel => exact ⟨k + 1, by omega, rfl, by go_num, ⟨_, rfl, ⟨fun e j hj => if ej : j = k then by rw [ej]; exact e else hb.out.1 (by trivial) j (by omega), fun c => c k (by omega)⟩⟩, rfl⟩
    · have hd : decide ((k : Int) < 5) = false := by simp; omega
      have fin : noted x = b := by
        have h1 := hb.out
        have hk5 : k = 5 := by omega
        rw [hk5, ← noted_iff] at h1
        cases b
        · cases h : noted x
          · rfl
          · exact absurd (h1.2 h) (by simp)
        · exact h1.1 rfl
      replace fin := Lib.hid fin
      go_wp2
      go_ret
      exact ⟨by rw [fin.out]; rfl, ((Below.refl _ _).alloc (Nat.le_refl _) _).alloc (by simp) _⟩
end Go.Proofs.Ytggfdkkhlokmlaa
