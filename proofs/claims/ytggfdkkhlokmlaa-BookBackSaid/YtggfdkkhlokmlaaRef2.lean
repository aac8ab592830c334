/- The reference's sums. -/
import Derived.Test.YtggfdkkhlokmlaaRef1
namespace Go.Proofs.Ytggfdkkhlokmlaa
open Go.RowKit
theorem conv2 (w' : World) (b : Nat) (m n : Nat) (hm : m < 256) (hn : n < 256) (hc : w'.cell? ⟨b, 0, none⟩ = some (.int .u8 m)) (hc1 : w'.cell? ⟨b, 1, none⟩ = some (.int .u8 n)) : (convert 74 9 (.slice (some ⟨b, 0, none⟩) 2 2)).run Try.prog w' = .ok (.string (str [UInt8.ofNat m, UInt8.ofNat n])) w' := by
  refine run_convert_bytes_back w' 74 9 5 ⟨b, 0, none⟩ 2 [UInt8.ofNat m, UInt8.ofNat n] Try.underlying74 Try.underlying5 Try.underlying9 ?_
  intro j hj
  have h1 : (UInt8.ofNat m).toNat = m := ofNat_small hm
  have h2 : (UInt8.ofNat n).toNat = n := ofNat_small hn
  have : j = 0 ∨ j = 1 := by simp at hj; omega
  rcases this with rfl | rfl
  · simp only [List.getElem_cons_zero, h1]; exact hc
  · simp only [List.getElem_cons_succ, List.getElem_cons_zero, h2]; exact hc1
theorem conv2_new (w : World) (m n : Nat) (hm : m < 256) (hn : n < 256) : (convert 74 9 (.slice (some ⟨w.heap.size, 0, none⟩) 2 2)).run Try.prog (w.alloc (.cells #[.int .u8 m, .int .u8 n] 5)) = .ok (.string (str [UInt8.ofNat m, UInt8.ofNat n])) (w.alloc (.cells #[.int .u8 m, .int .u8 n] 5)) :=
  conv2 _ _ m n hm hn (cells_at (hnew w _) 0) (cells_at (hnew w _) 1)
attribute [local go_sem] conv2_new
theorem bytesRow_get (s : ByteArray) (cap j : Nat) (hj : j < s.size) : (bytesRow s cap)[j]? = some (.int .u8 (s[j].toNat : Int)) := by
  have h1 : j < s.data.size := hj
  unfold bytesRow
  rw [Array.getElem?_append_left (by simpa using h1), Array.getElem?_map, Array.getElem?_eq_getElem h1]
  rfl
theorem mod251 (n : Nat) : IntKind.u8.wrap ((n % 251 : Nat) : Int) = ((n % 251 : Nat) : Int) := IntWalk.u8_in _ (by omega)
set_option maxRecDepth 100000 in
set_option maxHeartbeats 1000000 in
theorem sums_any (s : ByteArray) (w : World) (hs : s.size ≤ 1000) :
    Calls Try.prog 68 #[.string s] w fun e w' => e = .returned (.string (str [UInt8.ofNat (ck s.data.toList).1, UInt8.ofNat (ck s.data.toList).2])) ∧ Below w.heap.size w w' := by
  have hcv : (convert 9 74 (.string s)).run Try.prog w = _ := run_bytes_of_string w 9 74 5 s Try.underlying9 Try.underlying74 Try.underlying5
  go_enter Try.func68, Try.ntmps68
  go_wp2
  clear hcv
  go_loopg [3, 4, 10] s.size (fun g a b i wr => ∃ (k : Nat) (x y : Nat), k ≤ s.size ∧ g = s.size - k ∧ i = .int .i64 k ∧ a = .int .i64 x ∧ b = .int .i64 y ∧ cku (s.data.toList.take k) = (x, y) ∧ x ≤ 1 + 255 * k ∧ y ≤ 255001 * k ∧ Below w.heap.size w wr ∧ ∀ j (hj : j < s.size), wr.cell? ⟨w.heap.size, j, none⟩ = some (.int .u8 (s[j].toNat : Int)))
  case atStart =>
    refine ⟨0, 1, 0, by omega, rfl, rfl, rfl, rfl, rfl, by omega, by omega, ((Below.refl _ _).alloc (Nat.le_refl _) _).drew, fun j hj => ?_⟩
    exact (cell_of_row _ _ j _ _ _ (hnew w _)).trans (bytesRow_get s _ j hj)
  case round =>
    obtain ⟨k, x, y, hk, rfl, rfl, rfl, rfl, hD, hx, hy, hbl, hcell⟩ := hrel
    obtain ⟨wo, rfl⟩ : ∃ wo : World, wo = wr := ⟨_, rfl⟩
    replace hD := Lib.hid hD
    by_cases h4 : k < s.size
    · have hck := hcell k h4
      have hc : s[k].toNat < 256 := s[k].toNat_lt
      have hsn := Lib.hid (take_byte s k h4)
      replace hcell := Lib.hid hcell
      go_wp2
      go_roundg (s.size - (k + 1))
      case measure => omega
      case rel =>
        refine ⟨k + 1, x + s[k].toNat, y + (x + s[k].toNat), by omega, rfl, by go_num, by go_num, by go_num, ?_, by omega, by omega, hbl, hcell.out⟩
        rw [hsn.out, cku_snoc, hD.out]; rfl
    · have hd : decide ((k : Int) < s.size) = false := by simp; omega
      have hall := Lib.hid (take_all s k (by omega))
      have hcc := ck_cku s.data.toList
      rw [← hall.out, hD.out] at hcc
      have hx8 : x % 251 < 256 := by omega
      have hy8 : y % 251 < 256 := by omega
      have hxm : (x : Int) % 251 = ((x % 251 : Nat) : Int) := by omega
      have hym : (y : Int) % 251 = ((y % 251 : Nat) : Int) := by omega
      have hxw := mod251 x
      have hyw := mod251 y
      have hck1 : (ck s.data.toList).1 = x % 251 := by rw [← hall.out]; exact hcc.1
      have hck2 : (ck s.data.toList).2 = y % 251 := by rw [← hall.out]; exact hcc.2
      replace hck1 := Lib.hid hck1
      replace hck2 := Lib.hid hck2
      clear hcc
      replace hcell := Lib.hid hcell
      generalize x % 251 = X at *
      generalize y % 251 = Y at *
      go_wp2
      go_ret
      exact ⟨by rw [hck1.out, hck2.out]; rfl, hbl.alloc hbl.size _⟩
end Go.Proofs.Ytggfdkkhlokmlaa
