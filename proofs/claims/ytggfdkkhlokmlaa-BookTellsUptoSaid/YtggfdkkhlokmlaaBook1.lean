/- Package book and its reference: the checksum, the size of an act, one number at the front of bytes. -/
import Derived.Test.YtggfdkkhlokmlaaHouse
import Derived.Test.YtggfdkkhlokmlaaChecked
import Derived.Test.YtggfdkkhlokmlaaBookMath
import Derived.Deep.LoopGhost
namespace Go.Proofs.Ytggfdkkhlokmlaa
open Go.RowKit

theorem take_byte (s : ByteArray) (k : Nat) (h : k < s.size) : s.data.toList.take (k + 1) = s.data.toList.take k ++ [s[k]] := by
  rw [List.take_succ_eq_append_getElem (by simpa using h)]; rfl
theorem take_all (s : ByteArray) (k : Nat) (h : s.size ≤ k) : s.data.toList.take k = s.data.toList := List.take_of_length_le (by simpa using h)
theorem int_eq {k : IntKind} {a b : Int} (h : a = b) : Value.int k a = Value.int k b := by rw [h]

set_option maxHeartbeats 1000000 in
theorem sum8_any (s : ByteArray) (w : World) (hs : s.size ≤ 140737488355328) :
    Calls Try.prog 66 #[.string s] w fun e w' => e = .returned (.tuple #[.int .u8 (ck s.data.toList).1, .int .u8 (ck s.data.toList).2]) ∧ w = w' := by
  go_enter Try.func66, Try.ntmps66
  go_wp2
  go_loopg [4, 5, 9] s.size (fun g x y i wr => ∃ k : Nat, k ≤ s.size ∧ g = s.size - k ∧ i = .int .i64 k ∧ x = .int .i64 (ck (s.data.toList.take k)).1 ∧ y = .int .i64 (ck (s.data.toList.take k)).2 ∧ wr = w)
  case atStart => exact ⟨0, by omega, rfl, rfl, rfl, rfl, rfl⟩
  case round =>
    obtain ⟨k, hk, rfl, rfl, rfl, rfl, rfl⟩ := hrel
    have hlt := ck_lt (s.data.toList.take k)
    obtain ⟨hl1, hl2⟩ := hlt
    by_cases h4 : k < s.size
    · have hsn := Lib.hid (take_byte s k h4)
      have hc : s[k].toNat < 256 := s[k].toNat_lt
      go_wp2
      go_roundg (s.size - (k + 1))
      case measure => omega
      case rel =>
        refine ⟨k + 1, by omega, rfl, by go_num, ?_, ?_, rfl⟩
        · rw [hsn.out, ck_snoc]; exact int_eq (by simp only [ckStep]; omega)
        · rw [hsn.out, ck_snoc]; exact int_eq (by simp only [ckStep]; omega)
    · have hd : decide ((k : Int) < s.size) = false := by simp; omega
      have hall := Lib.hid (take_all s k (by omega))
      go_wp2
      go_ret2
      refine ⟨?_, rfl⟩
      rw [hall.out]
      rfl
end Go.Proofs.Ytggfdkkhlokmlaa
