/- The reference's numberText. -/
import Derived.Test.YtggfdkkhlokmlaaBook7
namespace Go.Proofs.Ytggfdkkhlokmlaa
open Go.RowKit
/-- The string of bytes. -/
def str (l : List UInt8) : ByteArray := ⟨l.toArray⟩
theorem str_data (l : List UInt8) : (str l).data.toList = l := by simp [str]
theorem str_of (s : ByteArray) : str s.data.toList = s := by simp [str]
theorem str_size (l : List UInt8) : (str l).size = l.length := by simp [str, ByteArray.size]
theorem str_app (a b : List UInt8) : str a ++ str b = str (a ++ b) := by
  apply ByteArray.ext
  simp [str]
theorem str_nil : str [] = ByteArray.empty := rfl
/-- A slice of the call's own bytes, turned into a string. -/
theorem conv1 (w' : World) (b : Nat) (n : Nat) (hn : n < 256) (hc : w'.cell? ⟨b, 0, none⟩ = some (.int .u8 n)) : (convert 74 9 (.slice (some ⟨b, 0, none⟩) 1 1)).run Try.prog w' = .ok (.string (str [UInt8.ofNat n])) w' := by
  refine run_convert_bytes_back w' 74 9 5 ⟨b, 0, none⟩ 1 [UInt8.ofNat n] Try.underlying74 Try.underlying5 Try.underlying9 ?_
  intro j hj
  have : j = 0 := by simpa using hj
  subst this
  have h1 : (UInt8.ofNat n).toNat = n := ofNat_small hn
  simp only [List.getElem_cons_zero, h1]
  exact hc
theorem conv_new (w : World) (n : Nat) (hn : n < 256) : (convert 74 9 (.slice (some ⟨w.heap.size, 0, none⟩) 1 1)).run Try.prog (w.alloc (.cells #[.int .u8 n] 5)) = .ok (.string (str [UInt8.ofNat n])) (w.alloc (.cells #[.int .u8 n] 5)) :=
  conv1 _ _ n hn (cells_at (hnew w _) 0)
attribute [local go_sem] conv_new
set_option maxRecDepth 100000 in
set_option maxHeartbeats 1000000 in
theorem numberText_small (n : Int) (w : World) (hn : notedN n = true) (hu : zig n < 128) :
    Calls Try.prog 67 #[.int .i64 n] w fun e w' => e = .returned (.string (str (enc (zig n)))) ∧ Below w.heap.size w w' := by
  have hb := of_decide_eq_true hn
  by_cases h0 : n < 0
  · obtain ⟨u, hu'⟩ : ∃ u : Nat, -2 * n - 1 = (u : Int) := ⟨(-2 * n - 1).toNat, by omega⟩
    have hz : zig n = u := by simp only [zig]; rw [if_neg (by omega)]; omega
    rw [hz] at hu ⊢
    rw [enc_small hu]
    replace hz := Lib.hid hz
    have hw8 : IntKind.u8.wrap (u : Int) = u := IntWalk.u8_in _ (by omega)
    go_enter Try.func67, Try.ntmps67
    have hd : decide ((u : Int) < 128) = true := decide_eq_true (by omega)
    have h256 : u < 256 := by omega
    go_wp2_with fail
    go_ret
    exact ⟨rfl, (Below.refl _ _).alloc (Nat.le_refl _) _⟩
  · obtain ⟨u, hu'⟩ : ∃ u : Nat, 2 * n = (u : Int) := ⟨(2 * n).toNat, by omega⟩
    have hz : zig n = u := by simp only [zig]; rw [if_pos (by omega)]; omega
    rw [hz] at hu ⊢
    rw [enc_small hu]
    replace hz := Lib.hid hz
    have hw8 : IntKind.u8.wrap (u : Int) = u := IntWalk.u8_in _ (by omega)
    have hd : decide ((u : Int) < 128) = true := decide_eq_true (by omega)
    have hd0 : decide (n < 0) = false := decide_eq_false h0
    have h256 : u < 256 := by omega
    go_enter Try.func67, Try.ntmps67
    go_wp2_with fail
    go_ret
    exact ⟨rfl, (Below.refl _ _).alloc (Nat.le_refl _) _⟩
set_option maxRecDepth 100000 in
set_option maxHeartbeats 1000000 in
theorem numberText_big (n : Int) (w : World) (hn : notedN n = true) (hu : ¬ zig n < 128) :
    Calls Try.prog 67 #[.int .i64 n] w fun e w' => e = .returned (.string (str (enc (zig n)))) ∧ Below w.heap.size w w' := by
  have hb := of_decide_eq_true hn
  obtain ⟨u, hz⟩ : ∃ u, zig n = u := ⟨_, rfl⟩
  have hlt := zig_lt hn
  have hel := enc_zig_len hn
  rw [hz] at hu hlt hel ⊢
  replace hel := Lib.hid hel
  have hd : decide ((u : Int) < 128) = false := decide_eq_false (by omega)
  suffices main : ∀ b : Bool, decide (n < 0) = b → (if b then -2 * n - 1 else 2 * n) = (u : Int) → Calls Try.prog 67 #[.int .i64 n] w fun e w' => e = .returned (.string (str (enc u))) ∧ Below w.heap.size w w' from by
    refine main _ rfl ?_
    simp only [zig] at hz
    by_cases h0 : n < 0
    · rw [if_neg (by omega)] at hz; simp only [h0, decide_true, if_true]; omega
    · rw [if_pos (by omega)] at hz; simp only [h0, decide_false]; simp; omega
  clear hz hn
  intro b hb1 hb2
  cases b
  · have hd0 : decide (n < 0) = false := hb1
    have hu' : 2 * n = (u : Int) := by simpa using hb2
    clear hb1 hb2
    go_enter Try.func67, Try.ntmps67
    go_wp2_with fail
    replace hu' := Lib.hid hu'
    go_loopg [3, 4] u (fun g a b wr => ∃ (v : Nat) (l : List UInt8), g = v ∧ a = .int .i64 v ∧ b = .string (str l) ∧ enc u = l ++ enc v ∧ v ≤ u ∧ Below w.heap.size w wr)
    case atStart => exact ⟨u, [], rfl, rfl, rfl, rfl, Nat.le_refl _, Below.refl _ _⟩
    case round =>
      obtain ⟨v, l, hg, rfl, rfl, hD, hv, hbl⟩ := hrel
      have hg2 : v = gk := hg.symm
      subst hg2
      clear hg
      obtain ⟨wo, rfl⟩ : ∃ wo : World, wo = wr := ⟨_, rfl⟩
      have hll := hel.out
      rw [hD, List.length_append] at hll
      have hev := enc_len_pos v
      have hsz : (str l).size ≤ 5 := by rw [str_size]; omega
      by_cases h1 : v < 128
      · have hd1 : decide ((128 : Int) ≤ (v : Int)) = false := decide_eq_false (by omega)
        have hw8 : IntKind.u8.wrap (v : Int) = v := IntWalk.u8_in _ (by omega)
        have h256 : v < 256 := by omega
        have hs1 : (str [UInt8.ofNat v]).size = 1 := rfl
        have happ : str l ++ str [UInt8.ofNat v] = str (enc u) := by rw [hD, enc_small h1, str_app]
        replace hD := Lib.hid hD
        clear hll hev
        go_wp2_with fail
        go_ret
        exact ⟨rfl, hbl.alloc hbl.size _⟩
      · have hd1 : decide ((128 : Int) ≤ (v : Int)) = true := decide_eq_true (by omega)
        obtain ⟨r, hr⟩ : ∃ r : Nat, r = 128 + v % 128 := ⟨_, rfl⟩
        obtain ⟨q, hq⟩ : ∃ q : Nat, q = v / 128 := ⟨_, rfl⟩
        have hr2 : 128 + (v : Int) % 128 = (r : Int) := by omega
        have hq2 : (v : Int) / 128 = (q : Int) := by omega
        have hD2 : enc u = (l ++ [UInt8.ofNat r]) ++ enc q := by rw [hD, enc_big h1, hr, hq]; simp
        have h256 : r < 256 := by omega
        have hqv : q < v := by omega
        have hs1 : (str [UInt8.ofNat r]).size = 1 := rfl
        have happ : str l ++ str [UInt8.ofNat r] = str (l ++ [UInt8.ofNat r]) := str_app _ _
        replace hD := Lib.hid hD
        replace hD2 := Lib.hid hD2
        replace hr := Lib.hid hr
        replace hq := Lib.hid hq
        clear hll hev
        go_wp2_with fail
        go_roundg q
        case measure => omega
        case rel => exact ⟨q, l ++ [UInt8.ofNat r], rfl, rfl, rfl, hD2.out, by omega, hbl.alloc hbl.size _⟩
  · have hd0 : decide (n < 0) = true := hb1
    have hu' : -2 * n - 1 = (u : Int) := by simpa using hb2
    clear hb1 hb2
    go_enter Try.func67, Try.ntmps67
    go_wp2_with fail
    replace hu' := Lib.hid hu'
    go_loopg [3, 4] u (fun g a b wr => ∃ (v : Nat) (l : List UInt8), g = v ∧ a = .int .i64 v ∧ b = .string (str l) ∧ enc u = l ++ enc v ∧ v ≤ u ∧ Below w.heap.size w wr)
    case atStart => exact ⟨u, [], rfl, rfl, rfl, rfl, Nat.le_refl _, Below.refl _ _⟩
    case round =>
      obtain ⟨v, l, hg, rfl, rfl, hD, hv, hbl⟩ := hrel
      have hg2 : v = gk := hg.symm
      subst hg2
      clear hg
      obtain ⟨wo, rfl⟩ : ∃ wo : World, wo = wr := ⟨_, rfl⟩
      have hll := hel.out
      rw [hD, List.length_append] at hll
      have hev := enc_len_pos v
      have hsz : (str l).size ≤ 5 := by rw [str_size]; omega
      by_cases h1 : v < 128
      · have hd1 : decide ((128 : Int) ≤ (v : Int)) = false := decide_eq_false (by omega)
        have hw8 : IntKind.u8.wrap (v : Int) = v := IntWalk.u8_in _ (by omega)
        have h256 : v < 256 := by omega
        have hs1 : (str [UInt8.ofNat v]).size = 1 := rfl
        have happ : str l ++ str [UInt8.ofNat v] = str (enc u) := by rw [hD, enc_small h1, str_app]
        replace hD := Lib.hid hD
        clear hll hev
        go_wp2_with fail
        go_ret
        exact ⟨rfl, hbl.alloc hbl.size _⟩
      · have hd1 : decide ((128 : Int) ≤ (v : Int)) = true := decide_eq_true (by omega)
        obtain ⟨r, hr⟩ : ∃ r : Nat, r = 128 + v % 128 := ⟨_, rfl⟩
        obtain ⟨q, hq⟩ : ∃ q : Nat, q = v / 128 := ⟨_, rfl⟩
        have hr2 : 128 + (v : Int) % 128 = (r : Int) := by omega
        have hq2 : (v : Int) / 128 = (q : Int) := by omega
        have hD2 : enc u = (l ++ [UInt8.ofNat r]) ++ enc q := by rw [hD, enc_big h1, hr, hq]; simp
        have h256 : r < 256 := by omega
        have hqv : q < v := by omega
        have hs1 : (str [UInt8.ofNat r]).size = 1 := rfl
        have happ : str l ++ str [UInt8.ofNat r] = str (l ++ [UInt8.ofNat r]) := str_app _ _
        replace hD := Lib.hid hD
        replace hD2 := Lib.hid hD2
        replace hr := Lib.hid hr
        replace hq := Lib.hid hq
        clear hll hev
        go_wp2_with fail
        go_roundg q
        case measure => omega
        case rel => exact ⟨q, l ++ [UInt8.ofNat r], rfl, rfl, rfl, hD2.out, by omega, hbl.alloc hbl.size _⟩
theorem numberText_any (n : Int) (w : World) (hn : notedN n = true) :
    Calls Try.prog 67 #[.int .i64 n] w fun e w' => e = .returned (.string (str (enc (zig n)))) ∧ Below w.heap.size w w' := by
  by_cases hu : zig n < 128
  · exact numberText_small n w hn hu
  · exact numberText_big n w hn hu
end Go.Proofs.Ytggfdkkhlokmlaa
