/- The reference's numberText. -/
import Derived.Deep.RegionWith
import Derived.Deep.Cut
import Derived.Deep.CutBlock
import Derived.Deep.DeepCutAuto
import Derived.Laws.Bits64
import Derived.Test.YtggfdkkhlokmlabCBk1
import Derived.Test.YtggfdkkhlokmlabCMem
namespace Go.Proofs.Ytggfdkkhlokmlab
open Go.RowKit
/-- The string of bytes. -/
def str (l : List UInt8) : ByteArray := ⟨l.toArray⟩
theorem str_data (l : List UInt8) : (str l).data.toList = l := by simp [str]
theorem str_of (s : ByteArray) : str s.data.toList = s := by simp [str]
theorem str_size (l : List UInt8) : (str l).size = l.length := by simp [str, ByteArray.size]
theorem str_app (a b : List UInt8) : str a ++ str b = str (a ++ b) := by
 apply ByteArray.ext
 simp [str]
/-- A slice of the call's own bytes, turned into a string. -/
theorem conv1 (w' : World) (b : Nat) (n : Nat) (hn : n < 256) (hc : w'.cell? ⟨b, 0, none⟩ = some (.int .u8 n)) : (convert 96 9 (.slice (some ⟨b, 0, none⟩) 1 1)).run Try.prog w' = .ok (.string (str [UInt8.ofNat n])) w' := by
 refine run_convert_bytes_back w' 96 9 5 ⟨b, 0, none⟩ 1 [UInt8.ofNat n] Try.underlying96 Try.underlying5 Try.underlying9 ?_
 intro j hj
 have : j = 0 := by simpa using hj
 subst this
 have h1 : (UInt8.ofNat n).toNat = n := ofNat_small hn
 simp only [List.getElem_cons_zero, h1]
 exact hc
theorem conv_new (w : World) (n : Nat) (hn : n < 256) : (convert 96 9 (.slice (some ⟨w.heap.size, 0, none⟩) 1 1)).run Try.prog (w.alloc (.cells #[.int .u8 n] 5)) = .ok (.string (str [UInt8.ofNat n])) (w.alloc (.cells #[.int .u8 n] 5)) :=
 conv1 _ _ n hn (cells_at (hnew w _) 0)
attribute [local go_sem] conv_new
set_option maxRecDepth 100000 in
set_option maxHeartbeats 1000000 in
theorem numberText_small (n : Int) (w : World) (hn : notedN n = true) (hu : zig n < 128) :
  Calls Try.prog 76 #[.int .i64 n] w fun e w' => e = .returned (.string (str (enc (zig n)))) ∧ Below w.heap.size w w' := by
 have hb := of_decide_eq_true hn
 by_cases h0 : n < 0
 ·obtain ⟨u, hu'⟩ : ∃ u : Nat, -2 * n - 1 = (u : Int) := ⟨(-2 * n - 1).toNat, by omega⟩
  have hz : zig n = u := by simp only [zig]; rw [if_neg (by omega)]; omega
  rw [hz] at hu ⊢
  rw [enc_small hu]
  replace hz := Lib.hid hz
  have hw8 : IntKind.u8.wrap (u : Int) = u := IntWalk.u8_in _ (by omega)
  go_enter Try.func76, Try.ntmps76
  have hd : decide ((u : Int) < 128) = true := decide_eq_true (by omega)
  have h256 : u < 256 := by omega
  go_wp2_with fail
  go_ret
  exact ⟨rfl, (Below.refl _ _).alloc (Nat.le_refl _) _⟩
 ·obtain ⟨u, hu'⟩ : ∃ u : Nat, 2 * n = (u : Int) := ⟨(2 * n).toNat, by omega⟩
  have hz : zig n = u := by simp only [zig]; rw [if_pos (by omega)]; omega
  rw [hz] at hu ⊢
  rw [enc_small hu]
  replace hz := Lib.hid hz
  have hw8 : IntKind.u8.wrap (u : Int) = u := IntWalk.u8_in _ (by omega)
  have hd : decide ((u : Int) < 128) = true := decide_eq_true (by omega)
  have hd0 : decide (n < 0) = false := decide_eq_false h0
  have h256 : u < 256 := by omega
  go_enter Try.func76, Try.ntmps76
  go_wp2_with fail
  go_ret
  exact ⟨rfl, (Below.refl _ _).alloc (Nat.le_refl _) _⟩
set_option maxRecDepth 100000 in
set_option maxHeartbeats 1000000 in
theorem numberText_big (n : Int) (w : World) (hn : notedN n = true) (hu : ¬ zig n < 128) :
  Calls Try.prog 76 #[.int .i64 n] w fun e w' => e = .returned (.string (str (enc (zig n)))) ∧ Below w.heap.size w w' := by
 have hb := of_decide_eq_true hn
 obtain ⟨u, hz⟩ : ∃ u, zig n = u := ⟨_, rfl⟩
 have hlt := zig_lt hn
 have hel := enc_zig_len hn
 rw [hz] at hu hlt hel ⊢
 replace hel := Lib.hid hel
 have hd : decide ((u : Int) < 128) = false := decide_eq_false (by omega)
 suffices main : ∀ b : Bool, decide (n < 0) = b → (if b then -2 * n - 1 else 2 * n) = (u : Int) → Calls Try.prog 76 #[.int .i64 n] w fun e w' => e = .returned (.string (str (enc u))) ∧ Below w.heap.size w w' from by
  refine main _ rfl ?_
  simp only [zig] at hz
  by_cases h0 : n < 0
  ·rw [if_neg (by omega)] at hz; simp only [h0, decide_true, if_true]; omega
  ·rw [if_pos (by omega)] at hz; simp only [h0, decide_false]; simp; omega
 clear hz hn
 intro b hb1 hb2
 cases b
 ·have hd0 : decide (n < 0) = false := hb1
  have hu' : 2 * n = (u : Int) := by simpa using hb2
  clear hb1 hb2
  go_enter Try.func76, Try.ntmps76
  go_wp2_with fail
  replace hu' := Lib.hid hu'
  go_loopg [3, 4] u (fun g a b wr => ∃ (v : Nat) (l : List UInt8), g = v ∧ a = .int .i64 v ∧ b = .string (str l) ∧ enc u = l ++ enc v ∧ v ≤ u ∧ Below w.heap.size w wr)
  case atStart => exact ⟨u, [], rfl, rfl, rfl, rfl, Nat.le_refl _, Below.refl _ _⟩
  case round =>
   obtain ⟨v, l, hg, rfl, rfl, hD, hv, hbl⟩ := hrel
   have hg2 : v = gk := hg.symm
   subst hg2
   clear hg
   obtain ⟨wo, rfl⟩ : ∃ wo : World, wo = wr := ⟨_, rfl⟩
   have hll := hel.out
   rw [hD, List.length_append] at hll
   have hev := enc_len_pos v
   have hsz : (str l).size ≤ 5 := by rw [str_size]; omega
   by_cases h1 : v < 128
   ·have hd1 : decide ((128 : Int) ≤ (v : Int)) = false := decide_eq_false (by omega)
    have hw8 : IntKind.u8.wrap (v : Int) = v := IntWalk.u8_in _ (by omega)
    have h256 : v < 256 := by omega
    have hs1 : (str [UInt8.ofNat v]).size = 1 := rfl
    have happ : str l ++ str [UInt8.ofNat v] = str (enc u) := by rw [hD, enc_small h1, str_app]
    replace hD := Lib.hid hD
    clear hll hev
    go_wp2_with fail
    go_ret
    exact ⟨rfl, hbl.alloc hbl.size _⟩
   ·have hd1 : decide ((128 : Int) ≤ (v : Int)) = true := decide_eq_true (by omega)
    obtain ⟨r, hr⟩ : ∃ r : Nat, r = 128 + v % 128 := ⟨_, rfl⟩
    obtain ⟨q, hq⟩ : ∃ q : Nat, q = v / 128 := ⟨_, rfl⟩
    have hr2 : 128 + (v : Int) % 128 = (r : Int) := by omega
    have hq2 : (v : Int) / 128 = (q : Int) := by omega
    have hD2 : enc u = (l ++ [UInt8.ofNat r]) ++ enc q := by rw [hD, enc_big h1, hr, hq]; simp
    have h256 : r < 256 := by omega
    have hqv : q < v := by omega
    have hs1 : (str [UInt8.ofNat r]).size = 1 := rfl
    have happ : str l ++ str [UInt8.ofNat r] = str (l ++ [UInt8.ofNat r]) := str_app _ _
    replace hD := Lib.hid hD
    replace hD2 := Lib.hid hD2
    replace hr := Lib.hid hr
    replace hq := Lib.hid hq
    clear hll hev
    go_wp2_with fail
    go_roundg q
    case measure => omega
    case rel => exact ⟨q, l ++ [UInt8.ofNat r], rfl, rfl, rfl, hD2.out, by omega, hbl.alloc hbl.size _⟩
 ·have hd0 : decide (n < 0) = true := hb1
  have hu' : -2 * n - 1 = (u : Int) := by simpa using hb2
  clear hb1 hb2
  go_enter Try.func76, Try.ntmps76
  go_wp2_with fail
  replace hu' := Lib.hid hu'
  go_loopg [3, 4] u (fun g a b wr => ∃ (v : Nat) (l : List UInt8), g = v ∧ a = .int .i64 v ∧ b = .string (str l) ∧ enc u = l ++ enc v ∧ v ≤ u ∧ Below w.heap.size w wr)
  case atStart => exact ⟨u, [], rfl, rfl, rfl, rfl, Nat.le_refl _, Below.refl _ _⟩
  case round =>
   obtain ⟨v, l, hg, rfl, rfl, hD, hv, hbl⟩ := hrel
   have hg2 : v = gk := hg.symm
   subst hg2
   clear hg
   obtain ⟨wo, rfl⟩ : ∃ wo : World, wo = wr := ⟨_, rfl⟩
   have hll := hel.out
   rw [hD, List.length_append] at hll
   have hev := enc_len_pos v
   have hsz : (str l).size ≤ 5 := by rw [str_size]; omega
   by_cases h1 : v < 128
   ·have hd1 : decide ((128 : Int) ≤ (v : Int)) = false := decide_eq_false (by omega)
    have hw8 : IntKind.u8.wrap (v : Int) = v := IntWalk.u8_in _ (by omega)
    have h256 : v < 256 := by omega
    have hs1 : (str [UInt8.ofNat v]).size = 1 := rfl
    have happ : str l ++ str [UInt8.ofNat v] = str (enc u) := by rw [hD, enc_small h1, str_app]
    replace hD := Lib.hid hD
    clear hll hev
    go_wp2_with fail
    go_ret
    exact ⟨rfl, hbl.alloc hbl.size _⟩
   ·have hd1 : decide ((128 : Int) ≤ (v : Int)) = true := decide_eq_true (by omega)
    obtain ⟨r, hr⟩ : ∃ r : Nat, r = 128 + v % 128 := ⟨_, rfl⟩
    obtain ⟨q, hq⟩ : ∃ q : Nat, q = v / 128 := ⟨_, rfl⟩
    have hr2 : 128 + (v : Int) % 128 = (r : Int) := by omega
    have hq2 : (v : Int) / 128 = (q : Int) := by omega
    have hD2 : enc u = (l ++ [UInt8.ofNat r]) ++ enc q := by rw [hD, enc_big h1, hr, hq]; simp
    have h256 : r < 256 := by omega
    have hqv : q < v := by omega
    have hs1 : (str [UInt8.ofNat r]).size = 1 := rfl
    have happ : str l ++ str [UInt8.ofNat r] = str (l ++ [UInt8.ofNat r]) := str_app _ _
    replace hD := Lib.hid hD
    replace hD2 := Lib.hid hD2
    replace hr := Lib.hid hr
    replace hq := Lib.hid hq
    clear hll hev
    go_wp2_with fail
    go_roundg q
    case measure => omega
    case rel => exact ⟨q, l ++ [UInt8.ofNat r], rfl, rfl, rfl, hD2.out, by omega, hbl.alloc hbl.size _⟩
theorem numberText_any (n : Int) (w : World) (hn : notedN n = true) :
  Calls Try.prog 76 #[.int .i64 n] w fun e w' => e = .returned (.string (str (enc (zig n)))) ∧ Below w.heap.size w w' := by
 by_cases hu : zig n < 128
 ·exact numberText_small n w hn hu
 ·exact numberText_big n w hn hu
end Go.Proofs.Ytggfdkkhlokmlab

namespace Go.Proofs.Ytggfdkkhlokmlab
open Go.RowKit
theorem conv2 (w' : World) (b : Nat) (m n : Nat) (hm : m < 256) (hn : n < 256) (hc : w'.cell? ⟨b, 0, none⟩ = some (.int .u8 m)) (hc1 : w'.cell? ⟨b, 1, none⟩ = some (.int .u8 n)) : (convert 96 9 (.slice (some ⟨b, 0, none⟩) 2 2)).run Try.prog w' = .ok (.string (str [UInt8.ofNat m, UInt8.ofNat n])) w' := by
 refine run_convert_bytes_back w' 96 9 5 ⟨b, 0, none⟩ 2 [UInt8.ofNat m, UInt8.ofNat n] Try.underlying96 Try.underlying5 Try.underlying9 ?_
 intro j hj
 have h1 : (UInt8.ofNat m).toNat = m := ofNat_small hm
 have h2 : (UInt8.ofNat n).toNat = n := ofNat_small hn
 have : j = 0 ∨ j = 1 := by simp at hj; omega
 rcases this with rfl | rfl
 ·simp only [List.getElem_cons_zero, h1]; exact hc
 ·simp only [List.getElem_cons_succ, List.getElem_cons_zero, h2]; exact hc1
theorem conv2_new (w : World) (m n : Nat) (hm : m < 256) (hn : n < 256) : (convert 96 9 (.slice (some ⟨w.heap.size, 0, none⟩) 2 2)).run Try.prog (w.alloc (.cells #[.int .u8 m, .int .u8 n] 5)) = .ok (.string (str [UInt8.ofNat m, UInt8.ofNat n])) (w.alloc (.cells #[.int .u8 m, .int .u8 n] 5)) :=
 conv2 _ _ m n hm hn (cells_at (hnew w _) 0) (cells_at (hnew w _) 1)
attribute [local go_sem] conv2_new
theorem bytesRow_get (s : ByteArray) (cap j : Nat) (hj : j < s.size) : (bytesRow s cap)[j]? = some (.int .u8 (s[j].toNat : Int)) := by
 have h1 : j < s.data.size := hj
 unfold bytesRow
 rw [Array.getElem?_append_left (by simpa using h1), Array.getElem?_map, Array.getElem?_eq_getElem h1]
 rfl
theorem mod251 (n : Nat) : IntKind.u8.wrap ((n % 251 : Nat) : Int) = ((n % 251 : Nat) : Int) := IntWalk.u8_in _ (by omega)
set_option maxRecDepth 100000 in
set_option maxHeartbeats 1000000 in
theorem sums_any (s : ByteArray) (w : World) (hs : s.size ≤ 1000) :
  Calls Try.prog 77 #[.string s] w fun e w' => e = .returned (.string (str [UInt8.ofNat (ck s.data.toList).1, UInt8.ofNat (ck s.data.toList).2])) ∧ Below w.heap.size w w' := by
 have hcv : (convert 9 96 (.string s)).run Try.prog w = _ := run_bytes_of_string w 9 96 5 s Try.underlying9 Try.underlying96 Try.underlying5
 go_enter Try.func77, Try.ntmps77
 go_wp2
 clear hcv
 go_loopg [3, 4, 10] s.size (fun g a b i wr => ∃ (k : Nat) (x y : Nat), k ≤ s.size ∧ g = s.size - k ∧ i = .int .i64 k ∧ a = .int .i64 x ∧ b = .int .i64 y ∧ cku (s.data.toList.take k) = (x, y) ∧ x ≤ 1 + 255 * k ∧ y ≤ 255001 * k ∧ Below w.heap.size w wr ∧ ∀ j (hj : j < s.size), wr.cell? ⟨w.heap.size, j, none⟩ = some (.int .u8 (s[j].toNat : Int)))
 case atStart =>
  refine ⟨0, 1, 0, by omega, rfl, rfl, rfl, rfl, rfl, by omega, by omega, ((Below.refl _ _).alloc (Nat.le_refl _) _).drew, fun j hj => ?_⟩
  exact (cell_of_row _ _ j _ _ _ (hnew w _)).trans (bytesRow_get s _ j hj)
 case round =>
  obtain ⟨k, x, y, hk, rfl, rfl, rfl, rfl, hD, hx, hy, hbl, hcell⟩ := hrel
  obtain ⟨wo, rfl⟩ : ∃ wo : World, wo = wr := ⟨_, rfl⟩
  replace hD := Lib.hid hD
  by_cases h4 : k < s.size
  ·have hck := hcell k h4
   have hc : s[k].toNat < 256 := s[k].toNat_lt
   have hsn := Lib.hid (take_byte s k h4)
   replace hcell := Lib.hid hcell
   go_wp2
   go_roundg (s.size - (k + 1))
   case measure => omega
   case rel =>
    refine ⟨k + 1, x + s[k].toNat, y + (x + s[k].toNat), by omega, rfl, by go_num, by go_num, by go_num, ?_, by omega, by omega, hbl, hcell.out⟩
    rw [hsn.out, cku_snoc, hD.out]; rfl
  ·have hd : decide ((k : Int) < s.size) = false := by simp; omega
   have hall := Lib.hid (take_all s k (by omega))
   have hcc := ck_cku s.data.toList
   rw [← hall.out, hD.out] at hcc
   have hx8 : x % 251 < 256 := by omega
   have hy8 : y % 251 < 256 := by omega
   have hxm : (x : Int) % 251 = ((x % 251 : Nat) : Int) := by omega
   have hym : (y : Int) % 251 = ((y % 251 : Nat) : Int) := by omega
   have hxw := mod251 x
   have hyw := mod251 y
   have hck1 : (ck s.data.toList).1 = x % 251 := by rw [← hall.out]; exact hcc.1
   have hck2 : (ck s.data.toList).2 = y % 251 := by rw [← hall.out]; exact hcc.2
   replace hck1 := Lib.hid hck1
   replace hck2 := Lib.hid hck2
   clear hcc
   replace hcell := Lib.hid hcell
   generalize x % 251 = X at *
   generalize y % 251 = Y at *
   go_wp2
   go_ret
   exact ⟨by rw [hck1.out, hck2.out]; rfl, hbl.alloc hbl.size _⟩
end Go.Proofs.Ytggfdkkhlokmlab

namespace Go.Proofs.Ytggfdkkhlokmlab
open Go.RowKit
attribute [local go_sem] conv1 conv_new dc_size dc_0 dc_1 dc_2 dc_3 dc_4
/-- What the two Frame functions return. -/
def framed (x : Deed) : List UInt8 × Int := if noted x then (frame x, 0) else ([], 3)
set_option maxRecDepth 100000 in
set_option maxHeartbeats 2000000 in
theorem frameOf_no (x : Deed) (w : World) (hn : noted x = false) :
  Calls Try.prog 60 #[.agg (dc x)] w fun e w' => e = .returned (.tuple #[.string (str (framed x).1), .int .i64 (framed x).2]) ∧ Below w.heap.size w w' := by
 have hN : ∀ w, Calls Try.prog 75 #[.agg (dc x)] w fun e w' => e = .returned (.bool false) ∧ Below w.heap.size w w' := by
  rw [← hn]; exact fun w => isNoted_any x w
 have hf : framed x = ([], 3) := by simp [framed, hn]
 replace hN := Lib.hid hN
 replace hf := Lib.hid hf
 go_enter Try.func60, Try.ntmps60
 go_wp2_with (first | go_skip | (go_at_call 75; refine (hN.out _).mono ?_; rintro e w1 ⟨rfl, hb1⟩) | (refine ld_row 40 _ rfl rfl _ rfl _ _ _ _ (hnew _ _) Try.underlying40 rfl info44 ?_))
 go_ret2
 exact ⟨by rw [hf.out]; rfl, ((Below.refl w.heap.size w).alloc (Nat.le_refl _) _).trans (hb1.mono (by rw [alloc_size]; omega))⟩
set_option maxRecDepth 100000 in
set_option maxHeartbeats 2000000 in
theorem frameOf_yes (x : Deed) (w : World) (hn : noted x = true) :
  Calls Try.prog 60 #[.agg (dc x)] w fun e w' => e = .returned (.tuple #[.string (str (framed x).1), .int .i64 (framed x).2]) ∧ Below w.heap.size w w' := by
 have hN : ∀ w, Calls Try.prog 75 #[.agg (dc x)] w fun e w' => e = .returned (.bool true) ∧ Below w.heap.size w w' := by
  rw [← hn]; exact fun w => isNoted_any x w
 have hf : framed x = (frame x, 0) := by simp [framed, hn]
 replace hN := Lib.hid hN
 replace hf := Lib.hid hf
 go_enter Try.func60, Try.ntmps60
 go_wp2_with (first | go_skip | (go_at_call 75; refine (hN.out _).mono ?_; rintro e w1 ⟨rfl, hb1⟩) | (refine ld_row 40 _ rfl rfl _ rfl _ _ _ _ (hnew _ _) Try.underlying40 rfl info44 ?_))
 have hgX : w1.heap[w.heap.size]? = some (.cells (dc x) 40 (0, 0)) := hkeep hb1 (hnew _ _)
 have hB : Below w.heap.size w w1 := ((Below.refl w.heap.size w).alloc (Nat.le_refl _) _).trans (hb1.mono (by rw [alloc_size]; omega))
 clear hb1
 obtain ⟨n0, n1, n2, n3, n4⟩ := noted_of hn
 have l0 := enc_zig_len n0
 have l1 := enc_zig_len n1
 have l2 := enc_zig_len n2
 have l3 := enc_zig_len n3
 have l4 := enc_zig_len n4
 have hbody : body x = enc (zig x.kind) ++ (enc (zig x.a) ++ (enc (zig x.b) ++ (enc (zig x.c) ++ enc (zig x.n)))) := rfl
 have z0 : (str (enc (zig x.kind))).size ≤ 5 := by rw [str_size]; exact l0
 have z1 : (str (enc (zig x.a))).size ≤ 5 := by rw [str_size]; exact l1
 have z2 : (str (enc (zig x.b))).size ≤ 5 := by rw [str_size]; exact l2
 have z3 : (str (enc (zig x.c))).size ≤ 5 := by rw [str_size]; exact l3
 have z4 : (str (enc (zig x.n))).size ≤ 5 := by rw [str_size]; exact l4
 have a1 : str (enc (zig x.kind)) ++ str (enc (zig x.a)) = str (enc (zig x.kind) ++ enc (zig x.a)) := str_app _ _
 have a2 : str (enc (zig x.kind) ++ enc (zig x.a)) ++ str (enc (zig x.b)) = str (enc (zig x.kind) ++ (enc (zig x.a) ++ enc (zig x.b))) := by rw [str_app]; simp
 have a3 : str (enc (zig x.kind) ++ (enc (zig x.a) ++ enc (zig x.b))) ++ str (enc (zig x.c)) = str (enc (zig x.kind) ++ (enc (zig x.a) ++ (enc (zig x.b) ++ enc (zig x.c)))) := by rw [str_app]; simp
 have a4 : str (enc (zig x.kind) ++ (enc (zig x.a) ++ (enc (zig x.b) ++ enc (zig x.c)))) ++ str (enc (zig x.n)) = str (body x) := by rw [str_app, hbody]; simp
 have y1 : (str (enc (zig x.kind) ++ enc (zig x.a))).size ≤ 10 := by rw [str_size]; simp only [List.length_append]; omega
 have y2 : (str (enc (zig x.kind) ++ (enc (zig x.a) ++ enc (zig x.b)))).size ≤ 15 := by rw [str_size]; simp only [List.length_append]; omega
 have y3 : (str (enc (zig x.kind) ++ (enc (zig x.a) ++ (enc (zig x.b) ++ enc (zig x.c))))).size ≤ 20 := by rw [str_size]; simp only [List.length_append]; omega
 replace hbody := Lib.hid hbody
 have hcs := calm_cells hgX
 replace hgX := Lib.hid hgX
 refine calm_region (Below w1.heap.size w1) (by kernel_rfl) (by kernel_rfl) (calm_start _) ?_
 repeat (first | go_big_quiet_skip | (go_big_quiet_want; (go_big_quiet_op; first | go_big_quiet_on | go_big_quiet_call (first | (go_at_call 76; exact calm_call (calm_below _) (numberText_any _ _ (by assumption)))))))
 refine wpQuiet_nil ?_
 intro w2 hI
 have hB2 : Below w.heap.size w w2 := hB.trans (hI.mono hB.size)
 clear hI hcs hB a1 a2 a3 a4 y1 y2 y3
 have hbl := body_len hn
 have hbs : (str (body x)).size = (body x).length := str_size _
 have hS := fun w => sums_any (str (body x)) w (by rw [str_size]; omega)
 rw [str_data] at hS
 obtain ⟨n, hnn⟩ : ∃ n, (body x).length = n := ⟨_, rfl⟩
 have hfr : frame x = UInt8.ofNat n :: (body x ++ [UInt8.ofNat (ck (body x)).1, UInt8.ofNat (ck (body x)).2]) := by rw [← hnn]; rfl
 rw [hnn] at hbl hbs
 have h256 : n < 256 := by omega
 have hw8 : IntKind.u8.wrap (n : Int) = n := IntWalk.u8_in _ (by omega)
 have c1 : (str [UInt8.ofNat n]).size = 1 := rfl
 have c2 : str [UInt8.ofNat n] ++ str (body x) = str (UInt8.ofNat n :: body x) := str_app _ _
 have c3 : (str (UInt8.ofNat n :: body x)).size ≤ 26 := by rw [str_size]; simp only [List.length_cons]; omega
 have c4 : (str [UInt8.ofNat (ck (body x)).1, UInt8.ofNat (ck (body x)).2]).size = 2 := rfl
 have c5 : str (UInt8.ofNat n :: body x) ++ str [UInt8.ofNat (ck (body x)).1, UInt8.ofNat (ck (body x)).2] = str (frame x) := by rw [str_app, hfr]; rfl
 replace hfr := Lib.hid hfr
 replace hS := Lib.hid hS
 replace hnn := Lib.hid hnn
 clear n0 n1 n2 n3 n4 l0 l1 l2 l3 l4 z0 z1 z2 z3 z4
 go_wp2_with fail
 have hcv0 : (convert 96 9 (.slice (some ⟨w2.heap.size, 0, none⟩) 1 1)).run Try.prog ((w2.alloc (.cells #[.int .u8 n] 5)).drew) = .ok (.string (str [UInt8.ofNat n])) ((w2.alloc (.cells #[.int .u8 n] 5)).drew) := conv1 _ _ n h256 (cells_at (hnew w2 (.cells #[.int .u8 n] 5)) 0)
 go_region_with (go_at_call 77; refine (hS.out _).mono ?_; rintro e w3 ⟨rfl, hb3⟩; try (have hcv := conv1 w3 w2.heap.size n h256 ((hb3.cell (p := ⟨w2.heap.size, 0, none⟩) (hlt (hnew w2 (.cells #[.int .u8 n] 5)))).trans (cells_at (hnew w2 (.cells #[.int .u8 n] 5)) 0))))
 all_goals go_wp2_with fail
 all_goals go_ret2
 all_goals refine ⟨by rw [hf.out]; rfl, ?_⟩
 all_goals
  have h4 := (hB2.alloc hB2.size (.cells #[.int .u8 n] 5)).drew
  first
   | exact h4.trans (hb3.mono h4.size)
   | exact (hB2.drew.trans (hb3.mono hB2.drew.size)).alloc (Nat.le_trans hB2.drew.size hb3.size) _
theorem frameOf_any (x : Deed) (w : World) :
  Calls Try.prog 60 #[.agg (dc x)] w fun e w' => e = .returned (.tuple #[.string (str (framed x).1), .int .i64 (framed x).2]) ∧ Below w.heap.size w w' := by
 cases hn : noted x
 ·exact frameOf_no x w hn
 ·exact frameOf_yes x w hn
end Go.Proofs.Ytggfdkkhlokmlab

namespace Go.Proofs.Ytggfdkkhlokmlab

/-- The reference's number at the front: at most f bytes that go on, no rule of the shortest form. -/
def rdec : Nat → List UInt8 → Option (Nat × Nat)
 | _, [] => none
 | 0, c :: _ => if c.toNat < 128 then some (c.toNat, 1) else none
 | f + 1, c :: t => if c.toNat < 128 then some (c.toNat, 1) else (rdec f t).map fun x => (c.toNat - 128 + 128 * x.1, x.2 + 1)
theorem rdec_dec : ∀ (f : Nat) (b : Bool) (s : List UInt8) (r : Nat × Nat) (g : Nat), f ≤ g + 1 → dec f b s = some r → rdec g s = some r
 | 0, b, s, r, g, _, h => by cases s <;> simp [dec] at h
 | f + 1, b, [], r, g, _, h => by simp [dec] at h
 | f + 1, b, c :: t, r, g, hg, h => by
  simp only [dec] at h
  by_cases h1 : c.toNat < 128
  ·rw [if_pos h1] at h
   have h2 : r = (c.toNat, 1) := by
    revert h
    split
    ·intro h; simp at h
    ·intro h; simpa using h.symm
   cases g <;> simp [rdec, h1, h2]
  ·rw [if_neg h1] at h
   obtain ⟨y, hy, rfl⟩ := Option.map_eq_some_iff.1 h
   cases g with
   | zero =>
    have : f = 0 := by omega
    subst this
    cases t <;> simp [dec] at hy
   | succ g =>
    have ih := rdec_dec f false t y g (by omega) hy
    simp [rdec, h1, ih]
def rdec1 (s : List UInt8) : Option (Int × List UInt8) := (rdec 6 s).map fun x => (zag x.1, s.drop x.2)
theorem rdec1_dec1 {s : List UInt8} {r : Int × List UInt8} (h : dec1 s = some r) : rdec1 s = some r := by
 simp only [dec1, Option.map_eq_some_iff] at h
 obtain ⟨y, hy, rfl⟩ := h
 simp [rdec1, rdec_dec 5 true s y 6 (by omega) hy]
/-- The first k numbers, as the reference reads them. -/
def rdecs : Nat → List UInt8 → Option (List Int × List UInt8)
 | 0, s => some ([], s)
 | k + 1, s => (rdecs k s).bind fun x => (rdec1 x.2).map fun y => (x.1 ++ [y.1], y.2)
theorem rdecs_decs : ∀ (k : Nat) (s : List UInt8) (r : List Int × List UInt8), decs k s = some r → rdecs k s = some r
 | 0, s, r, h => by simpa [decs, rdecs] using h
 | k + 1, s, r, h => by
  simp only [decs, Option.bind_eq_some_iff, Option.map_eq_some_iff] at h
  obtain ⟨x, h1, y, h2, rfl⟩ := h
  simp [rdecs, rdecs_decs k s x h1, rdec1_dec1 h2]
theorem rdecs_dead (s : List UInt8) (k : Nat) (h : rdecs k s = none) : ∀ j, rdecs (k + j) s = none
 | 0 => h
 | j + 1 => by
  have := rdecs_dead s k h j
  show rdecs ((k + j) + 1) s = none
  simp [rdecs, this]
/-- A frame that stands in front is read by the reference's five numbers too. -/
theorem rdecs_of_one {c : UInt8} {t : List UInt8} {x : Deed} {k : Nat} (h : oneL (c :: t) = some (x, k)) :
  ∃ ns, rdecs 5 (t.take c.toNat) = some (ns, []) ∧ deedOf ns = x ∧ noted x = true ∧ frame x = (c :: t).take (c.toNat + 3) := by
 obtain ⟨⟨hn, hf⟩, hk, hle⟩ := oneL_sound h
 obtain ⟨hb5, hb25⟩ := body_len hn
 have hfl := frame_len x
 have hcons : frame x = UInt8.ofNat (body x).length :: (body x ++ [UInt8.ofNat (ck (body x)).1, UInt8.ofNat (ck (body x)).2]) := rfl
 have hf2 := hf
 rw [hfl, List.take_succ_cons, hcons, List.cons.injEq] at hf2
 obtain ⟨hc, ht⟩ := hf2
 have hcn : c.toNat = (body x).length := by rw [← hc]; exact ofNat_small (by omega)
 have hB : t.take c.toNat = body x := by
  have h1 := congrArg (List.take (body x).length) ht
  rw [List.take_take, List.take_left'] at h1
  ·rw [Nat.min_eq_left (by omega)] at h1
   rw [hcn, ← h1]
  ·rfl
 have h5 := dec5_of hn []
 rw [List.append_nil, dec5_decs] at h5
 obtain ⟨⟨ns, r⟩, h6, h7⟩ := Option.map_eq_some_iff.1 h5
 simp only [Prod.mk.injEq] at h7
 obtain ⟨h8, rfl⟩ := h7
 refine ⟨ns, by rw [hB]; exact rdecs_decs 5 _ _ h6, h8, hn, ?_⟩
 rw [hcn, ← hfl]; exact hf
theorem one_of_rdecs {c : UInt8} {t : List UInt8} (hl : c.toNat + 2 ≤ t.length) {x : Deed} (hn : noted x = true) (hf : frame x = (c :: t).take (c.toNat + 3)) : oneL (c :: t) = some (x, c.toNat + 3) := by
 have h1 : (frame x).length = c.toNat + 3 := by rw [hf, List.length_take]; simp; omega
 have h2 := oneL_of (s := c :: t) (x := x) ⟨hn, by rw [h1]; exact hf⟩
 rw [h1] at h2
 exact h2
end Go.Proofs.Ytggfdkkhlokmlab

namespace Go.Proofs.Ytggfdkkhlokmlab
open Go.RowKit
attribute [local go_sem] dc_size
theorem arr5_any (ns : List Int) (h : ns.length ≤ 5) (k : Nat) (hk : k < 5) : (arr5 ns)[k]? = some (.int .i64 (ns.getD k 0)) := by
 simp only [arr5, List.getElem?_toArray]
 by_cases h1 : k < ns.length
 ·rw [List.getElem?_append_left (by simpa using h1)]
  simp [List.getD, List.getElem?_eq_getElem h1]
 ·rw [List.getElem?_append_right (by simp; omega), List.getElem?_replicate, if_pos (by simp; omega)]
  simp [List.getD, List.getElem?_eq_none (by omega : ns.length ≤ k)]
/-- What the five numbers came to. -/
def FiveOf (B : List UInt8) (ns : List Int) : Prop := (ns.length = 5 ∧ ∃ r, rdecs 5 B = some (ns, r)) ∨ (ns.length < 5 ∧ rdecs 5 B = none)
/-- How the reference's reading of one number stands behind j bytes that go on. -/
def NumAt (D0 D : List UInt8) (j U sc : Nat) : Prop := sc = 128 ^ j ∧ U < sc ∧ rdec 6 D0 = (rdec (6 - j) D).map fun x => (U + sc * x.1, x.2 + j)
theorem numAt_start (D : List UInt8) : NumAt D D 0 0 1 := by
 refine ⟨rfl, by omega, ?_⟩
 cases rdec 6 D <;> simp
theorem numAt_nil {D0 : List UInt8} {j U sc : Nat} (h : NumAt D0 [] j U sc) : rdec 6 D0 = none := by
 rw [h.2.2]; cases 6 - j <;> rfl
theorem numAt_small {D0 D : List UInt8} {c : UInt8} {j U sc : Nat} (h : NumAt D0 (c :: D) j U sc) (hc : c.toNat < 128) : rdec 6 D0 = some (U + sc * c.toNat, 1 + j) := by
 rw [h.2.2]; cases 6 - j <;> simp [rdec, hc]
theorem numAt_full {D0 D : List UInt8} {c : UInt8} {U sc : Nat} (h : NumAt D0 (c :: D) 6 U sc) (hc : ¬ c.toNat < 128) : rdec 6 D0 = none := by
 rw [h.2.2]; simp [rdec, hc]
theorem numAt_step {D0 D : List UInt8} {c : UInt8} {j U sc : Nat} (h : NumAt D0 (c :: D) j U sc) (hc : ¬ c.toNat < 128) (hj : j < 6) : NumAt D0 D (j + 1) (U + (c.toNat - 128) * sc) (sc * 128) := by
 obtain ⟨h1, h2, h3⟩ := h
 have hlt := c.toNat_lt
 refine ⟨by rw [h1]; rfl, ?_, ?_⟩
 ·have : (c.toNat - 128) * sc ≤ 127 * sc := Nat.mul_le_mul_right _ (by omega)
  omega
 ·rw [h3, show 6 - j = (6 - (j + 1)) + 1 from by omega]
  simp only [rdec, if_neg hc, Option.map_map]
  congr 1
  funext x
  simp only [Function.comp, Prod.mk.injEq]
  refine ⟨?_, by omega⟩
  rw [Nat.mul_add, Nat.mul_comm sc (c.toNat - 128), Nat.mul_assoc, Nat.add_assoc]
theorem sc_le {j sc : Nat} (h : sc = 128 ^ j) (hj : j < 6) : 1 ≤ sc ∧ sc ≤ 34359738368 := by
 subst h
 rcases (by omega : j = 0 ∨ j = 1 ∨ j = 2 ∨ j = 3 ∨ j = 4 ∨ j = 5) with rfl | rfl | rfl | rfl | rfl | rfl <;> decide
theorem sc_6 {j sc : Nat} (h : sc = 128 ^ j) (hj : j = 6) : sc = 4398046511104 := by
 subst h; subst hj; rfl
theorem sc_any {j sc : Nat} (h : sc = 128 ^ j) (hj : j ≤ 6) : 1 ≤ sc ∧ sc ≤ 4398046511104 := by
 by_cases h6 : j < 6
 ·have := sc_le h h6; omega
 ·have := sc_6 h (by omega); omega
theorem rdecs_step {B q : List UInt8} {ns : List Int} {v k : Nat} (h : rdecs ns.length B = some (ns, q)) (h1 : rdec 6 q = some (v, k)) : rdecs (ns ++ [zag v]).length B = some (ns ++ [zag v], q.drop k) := by
 rw [List.length_append]
 show rdecs (ns.length + 1) B = _
 simp [rdecs, h, rdec1, h1]
theorem rdecs_stop {B q : List UInt8} {ns : List Int} (h : rdecs ns.length B = some (ns, q)) (h1 : rdec 6 q = none) (hl : ns.length < 5) : FiveOf B ns := by
 refine .inr ⟨hl, ?_⟩
 have := rdecs_dead B (ns.length + 1) (by simp [rdecs, h, rdec1, h1]) (5 - (ns.length + 1))
 rw [show ns.length + 1 + (5 - (ns.length + 1)) = 5 from by omega] at this
 exact this
theorem prod_int {m sc X : Nat} (h : 128 ≤ m) (hX : (m - 128) * sc = X) : ((m : Int) - 128) * (sc : Int) = (X : Int) := by
 rw [← hX, Int.natCast_mul]; congr 1; omega
theorem oneL_cut {c : UInt8} {t : List UInt8} (h : t.length < c.toNat + 2) : oneL (c :: t) = none := by
 unfold oneL; simp only [if_pos h]
theorem bytes_eq {a b : ByteArray} (h : a.toList = b.toList) : a = b := by
 rw [ByteArray.toList_eq, ByteArray.toList_eq] at h
 cases a; cases b
 simp only [ByteArray.mk.injEq]
 exact Array.toList_inj.1 h
/-- What the inner loop leaves: the bytes' end, a byte that goes on too far, or the last byte. -/
def NumEnd (sd : ByteArray) (e q0 q : Nat) (D0 : List UInt8) (U sc : Nat) : Prop :=
 (q = e ∧ rdec 6 D0 = none) ∨ (∃ h : q < sd.size, q < e ∧ ¬ (sd[q]'h).toNat < 128 ∧ rdec 6 D0 = none) ∨ (∃ h : q < sd.size, q < e ∧ (sd[q]'h).toNat < 128 ∧ rdec 6 D0 = some (U + sc * (sd[q]'h).toNat, 1 + (q - q0)))
set_option maxRecDepth 100000 in
set_option maxHeartbeats 20000000 in
theorem readBook_any (s : ByteArray) (w : World) (hs : s.size ≤ 16777216) : Calls Try.prog 58 #[.string s] w (ReadPost s.data.toList w) := by
 obtain ⟨i0, z, hi, hz0, hz1, hz2, hz3⟩ := info44z
 obtain ⟨L, hL⟩ : ∃ L, L = s.data.toList := ⟨_, rfl⟩
 rw [← hL]
 have hLl : L.length = s.size := by rw [hL]; simp
 replace hL := Lib.hid hL
 go_enter Try.func58, Try.ntmps58
 go_wp2
 go_loopg [4, 5] s.size (fun g a b wr => ∃ (n : Nat) (xs : List Deed), n ≤ s.size ∧ g = s.size - n ∧ b = .int .i64 n ∧ OwnActs wr w.heap.size a xs ∧ xs.length * 8 ≤ n ∧ rd L = (xs ++ (rd (L.drop n)).1, n + (rd (L.drop n)).2) ∧ Below w.heap.size w wr)
 case atStart => exact ⟨0, [], by omega, rfl, rfl, ⟨⟨rfl, .inl ⟨rfl, rfl⟩⟩, by simp⟩, by simp, by simp, Below.refl _ _⟩
 case round =>
  obtain ⟨n, xs, hn, rfl, rfl, hown, hxl, hD, hbl⟩ := hrel
  obtain ⟨wo, rfl⟩ : ∃ wo : World, wo = wr := ⟨_, rfl⟩
  obtain ⟨R, hR⟩ : ∃ R, R = L.drop n := ⟨_, rfl⟩
  have hRl : R.length = s.size - n := by rw [hR, List.length_drop, hLl]
  rw [← hR] at hD
  have dead : oneL R = none → rd L = (xs, n) := fun h => by rw [hD, rd_none h]; simp
  by_cases hns : n < s.size
  ·obtain ⟨sd, hE⟩ : ∃ sd, s.extract n s.size = sd := ⟨_, rfl⟩
   have hsd : sd.data.toList = R := by rw [hR, ← hE, Lib.extract_data, ← hL.out, ← hLl]; exact List.take_of_length_le (by simp)
   have hds : sd.size = s.size - n := by
    have h1 : sd.size = sd.data.toList.length := by simp
    rw [h1, hsd, hRl]
   obtain ⟨c, t, hct⟩ : ∃ c t, R = c :: t := by
    cases R with
    | nil => simp at hRl; omega
    | cons c t => exact ⟨c, t, rfl⟩
   obtain ⟨n0, hn0⟩ : ∃ n0, sd[0]'(by omega) = n0 := ⟨_, rfl⟩
   have hc0 : c = n0 := by
    have h1 : sd.data.toList[0]? = some c := by rw [hsd, hct]; rfl
    rw [List.getElem?_eq_getElem (by rw [hsd, hRl]; omega)] at h1
    rw [← hn0]
    exact (Option.some.inj h1).symm
   subst hc0
   have hc256 : c.toNat < 256 := c.toNat_lt
   have hsd0 : 0 < sd.size := by omega
   replace hn0 : (sd[0]'hsd0) = c := hn0
   by_cases hlen : c.toNat + 3 ≤ sd.size
   ·have hd1 : decide ((sd.size : Int) < (c.toNat : Int) + 3) = false := decide_eq_false (by omega)
    have hd0 : decide ((n : Int) < s.size) = true := decide_eq_true (by omega)
    replace hR := Lib.hid hR
    replace hD := Lib.hid hD
    replace hRl := Lib.hid hRl
    replace hLl := Lib.hid hLl
    replace hct := Lib.hid hct
    replace hsd := Lib.hid hsd
    replace hds := Lib.hid hds
    replace dead := Lib.hid dead
    obtain ⟨B, hBe⟩ : ∃ B, B = t.take c.toNat := ⟨_, rfl⟩
    have htl : t.length + 1 = sd.size := by
     have h1 := hRl.out
     rw [hct.out] at h1
     simp only [List.length_cons] at h1
     rw [hds.out]; exact h1
    have hBl : B.length = c.toNat := by rw [hBe, List.length_take]; omega
    have hdr : Hid (∀ q (h1 : 1 ≤ q) (h2 : q < c.toNat + 1) (h3 : q < sd.size), B.drop (q - 1) = (sd[q]'h3) :: B.drop q) := by
     intro q h1 h2 h3
     obtain ⟨m, rfl⟩ : ∃ m, q = m + 1 := ⟨q - 1, by omega⟩
     have h4 : m < B.length := by omega
     show B.drop m = _
     rw [List.drop_eq_getElem_cons h4]
     congr 1
     have h5 : sd.data.toList[m + 1]? = some (sd[m + 1]'h3) := by rw [List.getElem?_eq_getElem (by simpa using h3)]; rfl
     rw [hsd.out, hct.out, List.getElem?_cons_succ] at h5
     have h6 : B[m]? = t[m]? := by rw [hBe, List.getElem?_take_of_lt (by omega)]
     rw [List.getElem?_eq_getElem h4, h5] at h6
     exact Option.some.inj h6
    have hde : Hid (B.drop (c.toNat + 1 - 1) = []) := by
     show B.drop _ = []
     rw [List.drop_eq_nil_iff]; omega
    replace hBe := Lib.hid hBe
    replace hBl := Lib.hid hBl
    go_upto_block 2 with fail
    go_cut [9, 10, 11, 12] (fun _ s10 _ _ wx => ∃ ns : List Int, ns.length ≤ 5 ∧ s10 = .int .i64 (ns.length : Nat) ∧ wx.heap[wo.heap.size]? = some (.cells (arr5 ns) 97 (0, 0)) ∧ FiveOf B ns ∧ Below wo.heap.size wo wx)
    case first =>
     go_wp2_with fail
     go_loopg [9, 10, 11, 12] 5 (fun g s9 s10 _ _ wr => ∃ (ns : List Int) (q : Nat), ns.length ≤ 5 ∧ g = 5 - ns.length ∧ s10 = .int .i64 (ns.length : Nat) ∧ s9 = .int .i64 (q : Nat) ∧ 1 ≤ q ∧ q ≤ c.toNat + 1 ∧ rdecs ns.length B = some (ns, B.drop (q - 1)) ∧ wr.heap[wo.heap.size]? = some (.cells (arr5 ns) 97 (0, 0)) ∧ Below wo.heap.size wo wr)
     case atStart => exact ⟨[], 1, by simp, rfl, rfl, rfl, by omega, by omega, rfl, hnew _ _, (Below.refl _ _).alloc (Nat.le_refl _) _⟩
     case round =>
      obtain ⟨ns, q, hns5, rfl, rfl, rfl, hq1, hq2, hns, harr, hbo⟩ := hrel
      obtain ⟨wi, rfl⟩ : ∃ wi : World, wi = wr := ⟨_, rfl⟩
      obtain ⟨k, hk⟩ : ∃ k, ns.length = k := ⟨_, rfl⟩
      obtain ⟨D0, hD0⟩ : ∃ D0, D0 = B.drop (q - 1) := ⟨_, rfl⟩
      replace hns := Lib.hid hns
      replace harr := Lib.hid harr
      rw [hk]
      by_cases hk5 : k < 5
      ·have hk5d : decide ((k : Int) < 5) = true := decide_eq_true (by omega)
       replace hk := Lib.hid hk
       replace hD0 := Lib.hid hD0
       go_upto_block 4 with fail
       go_cut [9, 11, 12] (fun s9 s11 s12 wx => ∃ (q' U sc : Nat) (sci : Int), sci = sc ∧ 1 ≤ q' ∧ q' ≤ c.toNat + 1 ∧ q ≤ q' ∧ s9 = .int .i64 q' ∧ s11 = .int .i64 U ∧ s12 = .int .i64 sci ∧ 1 ≤ sc ∧ sc ≤ 4398046511104 ∧ U < sc ∧ NumEnd sd (c.toNat + 1) q q' D0 U sc ∧ wx = wi)
       case first =>
        go_wp2_with fail
        go_loopg [9, 11, 12] (c.toNat + 1 - q) (fun g s9 s11 s12 wr => ∃ (j q' U sc : Nat) (sci : Int), sci = sc ∧ j ≤ 6 ∧ 1 ≤ q' ∧ q' ≤ c.toNat + 1 ∧ q' = q + j ∧ g = c.toNat + 1 - q' ∧ s9 = .int .i64 q' ∧ s11 = .int .i64 U ∧ s12 = .int .i64 sci ∧ NumAt D0 (B.drop (q' - 1)) j U sc ∧ wr = wi)
        case atStart => exact ⟨0, q, 0, 1, 1, rfl, by omega, hq1, hq2, rfl, rfl, rfl, rfl, rfl, by rw [hD0.out]; exact numAt_start _, rfl⟩
        case round =>
         obtain ⟨j, q', U, sc, sci, hsci, hj, hq1', hq2', hqj, rfl, rfl, rfl, rfl, hNA, rfl⟩ := hrel
         replace hqj := Lib.hid hqj
         have hscn := sc_any hNA.1 hj
         have hscb : 1 ≤ sci ∧ sci ≤ 4398046511104 := by omega
         have hUs := hNA.2.1
         have hUs2 : (U : Int) < sci := by omega
         replace hscn := Lib.hid hscn
         replace hUs := Lib.hid hUs
         replace hsci := Lib.hid hsci
         by_cases hqe : q' < c.toNat + 1
         ·have hqs : q' < sd.size := by omega
          have hcell := hdr.out q' hq1' hqe hqs
          rw [hcell] at hNA
          obtain ⟨m, hm⟩ : ∃ m, (sd[q']'hqs).toNat = m := ⟨_, rfl⟩
          have hm256 : m < 256 := by rw [← hm]; exact (sd[q']'hqs).toNat_lt
          by_cases hbig : 128 ≤ m
          ·have hnb : ¬ (sd[q']'hqs).toNat < 128 := by rw [hm]; omega
           by_cases hj6 : j < 6
           ·have hsln := sc_le hNA.1 hj6
            have hsl : sci ≤ 34359738368 := by rw [hsci.out]; omega
            have hsd' : decide (sci < 1099511627776) = true := decide_eq_true (by omega)
            replace hsln := Lib.hid hsln
            have hNA2 := numAt_step hNA hnb hj6
            rw [hm] at hNA2
            obtain ⟨X, hX⟩ : ∃ X, (m - 128) * sc = X := ⟨_, rfl⟩
            have hXb : X ≤ 127 * sc := by rw [← hX]; exact Nat.mul_le_mul_right _ (by omega)
            have hXi : ((m : Int) - 128) * sci = (X : Int) := by rw [hsci.out]; exact prod_int hbig hX
            have hXb2 : (X : Int) ≤ 127 * sci := by rw [hsci.out]; omega
            replace hXb := Lib.hid hXb
            rw [hX] at hNA2
            replace hNA2 := Lib.hid hNA2
            replace hX := Lib.hid hX
            replace hNA := Lib.hid hNA
            replace hcell := Lib.hid hcell
            replace hnb := Lib.hid hnb
            go_wp2_with fail
            go_roundg (c.toNat + 1 - (q' + 1))
            case measure => omega
            case rel => exact ⟨j + 1, q' + 1, U + X, sc * 128, sci * 128, by rw [hsci.out]; omega, by omega, by omega, by omega, by have := hqj.out; omega, rfl, by go_num, by go_num, rfl, hNA2.out, rfl⟩
           ·have hsl := sc_6 hNA.1 (by omega)
            have hsd' : decide (sci < 1099511627776) = false := decide_eq_false (by rw [hsci.out, hsl]; omega)
            replace hsl := Lib.hid hsl
            have fin := numAt_full (by rw [show j = 6 from by omega] at hNA; exact hNA) hnb
            replace hNA := Lib.hid hNA
            replace hcell := Lib.hid hcell
            replace fin := Lib.hid fin
            replace hnb := Lib.hid hnb
            go_wp2_with fail
            go_meet
            case rel => exact ⟨q', U, sc, _, hsci.out, by omega, by omega, by have := hqj.out; omega, rfl, rfl, rfl, hscn.out.1, hscn.out.2, hUs.out, .inr (.inl ⟨hqs, hqe, hnb.out, fin.out⟩), rfl⟩
          ·have fin := numAt_small hNA (by rw [hm]; omega)
           rw [show j = q' - q from by have := hqj.out; omega] at fin
           replace hNA := Lib.hid hNA
           replace hcell := Lib.hid hcell
           replace fin := Lib.hid fin
           go_wp2_with fail
           go_meet
           case rel => exact ⟨q', U, sc, _, hsci.out, by omega, by omega, by have := hqj.out; omega, rfl, rfl, rfl, hscn.out.1, hscn.out.2, hUs.out, .inr (.inr ⟨hqs, hqe, by rw [hm]; omega, fin.out⟩), rfl⟩
         ·have hqe' : q' = c.toNat + 1 := by omega
          have hd2 : decide ((q' : Int) < (c.toNat : Int) + 1) = false := decide_eq_false (by omega)
          rw [show q' - 1 = c.toNat + 1 - 1 from by omega, hde.out] at hNA
          have fin := numAt_nil hNA
          replace hNA := Lib.hid hNA
          replace fin := Lib.hid fin
          replace hqe' := Lib.hid hqe'
          go_wp2_with fail
          go_meet
          case rel => exact ⟨q', U, sc, _, hsci.out, by omega, by omega, by have := hqj.out; omega, rfl, rfl, rfl, hscn.out.1, hscn.out.2, hUs.out, .inl ⟨hqe'.out, fin.out⟩, rfl⟩
       case rest =>
        obtain ⟨q', U, sc, sci, hsci, hq1', hq2', hqq, rfl, rfl, rfl, hs1, hs2, hUs, hend, rfl⟩ := hcut
        replace hsci := Lib.hid hsci
        replace hUs := Lib.hid hUs
        replace hs1 := Lib.hid hs1
        replace hs2 := Lib.hid hs2
        rcases hend with ⟨hqe, hno⟩ | ⟨hqs, hqe, hbig, hno⟩ | ⟨hqs, hqe, hsm, hyes⟩
        ·have fin := rdecs_stop hns.out (by rw [← hD0.out]; exact hno) (by rw [hk.out]; exact hk5)
         have hd2 : decide ((c.toNat : Int) + 1 ≤ (q' : Int)) = true := decide_eq_true (by omega)
         have hd3 : decide ((c.toNat : Int) + 3 - 2 ≤ (q' : Int)) = true := decide_eq_true (by omega)
         replace hqe := Lib.hid hqe
         replace hno := Lib.hid hno
         replace fin := Lib.hid fin
         go_wp2_with fail
         go_meet
         case rel => exact ⟨ns, by have := hk.out; omega, by rw [hk.out], harr.out, fin.out, hbo⟩
        ·have fin := rdecs_stop hns.out (by rw [← hD0.out]; exact hno) (by rw [hk.out]; exact hk5)
         obtain ⟨m, hm⟩ : ∃ m, (sd[q']'hqs).toNat = m := ⟨_, rfl⟩
         rw [hm] at hbig
         have hm256 : m < 256 := by rw [← hm]; exact (sd[q']'hqs).toNat_lt
         have hbig2 : (128 : Int) ≤ (m : Int) := by omega
         have hbig3 : decide ((128 : Int) ≤ (m : Int)) = true := decide_eq_true hbig2
         have hd3 : decide ((c.toNat : Int) + 3 - 2 ≤ (q' : Int)) = false := decide_eq_false (by omega)
         replace hno := Lib.hid hno
         replace fin := Lib.hid fin
         replace hbig := Lib.hid hbig
         go_wp2_with fail
         go_meet
         case rel => exact ⟨ns, by have := hk.out; omega, by rw [hk.out], harr.out, fin.out, hbo⟩
        ·obtain ⟨m, hm⟩ : ∃ m, (sd[q']'hqs).toNat = m := ⟨_, rfl⟩
         rw [hm] at hsm hyes
         have hbig3 : decide ((128 : Int) ≤ (m : Int)) = false := decide_eq_false (by omega)
         have hd3 : decide ((c.toNat : Int) + 3 - 2 ≤ (q' : Int)) = false := decide_eq_false (by omega)
         have hUo := hUs.out
         have hm128 : (m : Int) < 128 := by omega
         obtain ⟨Z, hZ⟩ : ∃ Z, U + sc * m = Z := ⟨_, rfl⟩
         obtain ⟨Y, hY⟩ : ∃ Y, (m : Int) * sci = Y := ⟨_, rfl⟩
         obtain ⟨Zi, hZi⟩ : ∃ Zi, (U : Int) + Y = Zi := ⟨_, rfl⟩
         have hYn : Y = ((sc * m : Nat) : Int) := by rw [← hY, hsci.out, Int.natCast_mul, Int.mul_comm]
         have hZn : Zi = (Z : Int) := by rw [← hZi, hYn, ← hZ]; omega
         have hYb : 0 ≤ Y ∧ Y ≤ 558551906910208 := by
          have h1 : sc * m ≤ 4398046511104 * 127 := Nat.mul_le_mul hs2.out (by omega)
          omega
         have hUb : (U : Int) < sci := by rw [hsci.out]; omega
         have hZb : 0 ≤ Zi ∧ Zi ≤ 562949953421312 := by
          have := hs2.out
          omega
         have hT : (-Zi).tdiv 2 = -(Zi / 2) := by rw [Int.neg_tdiv, Int.tdiv_eq_ediv_of_nonneg hZb.1]
         have hstep : rdecs (ns ++ [zag Z]).length B = some (ns ++ [zag Z], B.drop (q' + 1 - 1)) := by
          have h1 := rdecs_step (q := D0) (ns := ns) (B := B) (by rw [hD0.out]; exact hns.out) hyes
          rw [hZ] at h1
          rw [h1, hD0.out, List.drop_drop]
          congr 3
          omega
         have hnl := hk.out
         have hset : ∀ v : Int, (arr5 ns).setIfInBounds k (.int .i64 v) = arr5 (ns ++ [v]) := fun v => by rw [← hnl]; exact arr5_set ns v (by omega)
         have hset2 : ∀ u v : Int, ((arr5 ns).setIfInBounds k (.int .i64 u)).setIfInBounds k (.int .i64 v) = arr5 (ns ++ [v]) := fun u v => by
          rw [← hset v]; simp
         have hcell : wc.cell? ⟨wo.heap.size, k, none⟩ = some (.int .i64 0) := by
          rw [cells_at harr.out, ← hnl]; exact arr5_at ns (by omega)
         have hfz : wc.frozen? ⟨wo.heap.size, k, none⟩ = false := frozenAt harr.out _
         have hlen2 : (ns ++ [zag Z]).length = k + 1 := by simp [hnl]
         by_cases hpar : Z % 2 = 1
         ·have hpz : (Zi % 2 == 1) = true := by rw [beq_iff_eq, hZn]; omega
          have hv : -(Zi / 2) - 1 = zag Z := by rw [hZn]; simp only [zag, if_pos hpar]; omega
          replace hv := Lib.hid hv
          replace hset := Lib.hid hset
          replace hset2 := Lib.hid hset2
          replace hstep := Lib.hid hstep
          replace hYn := Lib.hid hYn
          replace hZn := Lib.hid hZn
          replace hZ := Lib.hid hZ
          replace hUo := Lib.hid hUo
          replace hyes := Lib.hid hyes
          replace hnl := Lib.hid hnl
          replace hlen2 := Lib.hid hlen2
          replace hpar := Lib.hid hpar
          replace hsm := Lib.hid hsm
          go_wp2_with fail
          go_roundg (5 - (k + 1))
          case measure => have := hnl.out; omega
          case rel => exact ⟨ns ++ [zag Z], q' + 1, by have := hlen2.out; omega, by rw [hlen2.out], by rw [hlen2.out]; go_num, by go_num, by omega, by omega, hstep.out, by rw [← hv.out, ← hset2.out (Zi / 2)]; exact hsetSame (hsetSame harr.out _) _, (hbo.setCell (Nat.le_refl _) _).setCell (Nat.le_refl _) _⟩
         ·have hpz : (Zi % 2 == 1) = false := by rw [beq_eq_false_iff_ne, hZn]; omega
          have hv : Zi / 2 = zag Z := by rw [hZn]; simp only [zag, if_neg hpar]; omega
          replace hv := Lib.hid hv
          replace hset := Lib.hid hset
          replace hset2 := Lib.hid hset2
          replace hstep := Lib.hid hstep
          replace hYn := Lib.hid hYn
          replace hZn := Lib.hid hZn
          replace hZ := Lib.hid hZ
          replace hUo := Lib.hid hUo
          replace hyes := Lib.hid hyes
          replace hnl := Lib.hid hnl
          replace hlen2 := Lib.hid hlen2
          replace hpar := Lib.hid hpar
          replace hsm := Lib.hid hsm
          go_wp2_with fail
          go_roundg (5 - (k + 1))
          case measure => have := hnl.out; omega
          case rel => exact ⟨ns ++ [zag Z], q' + 1, by have := hlen2.out; omega, by rw [hlen2.out], by rw [hlen2.out]; go_num, by go_num, by omega, by omega, hstep.out, by rw [← hv.out, ← hset.out]; exact hsetSame harr.out _, hbo.setCell (Nat.le_refl _) _⟩
      ·have hk5d : decide ((k : Int) < 5) = false := decide_eq_false (by omega)
       go_wp2_with fail
       go_meet
       case rel =>
        exact ⟨ns, by omega, by rw [hk], harr.out, .inl ⟨by omega, _, by have := hns.out; rw [show ns.length = 5 from by omega] at this; exact this⟩, hbo⟩
    case rest =>
     obtain ⟨ns, hns5, rfl, harr, hfive, hbo⟩ := hcut
     obtain ⟨x, hx⟩ : ∃ x, deedOf ns = x := ⟨_, rfl⟩
     have gv : ∃ v0 v1 v2 v3 v4 : Int, (arr5 ns)[0]? = some (.int .i64 v0) ∧ (arr5 ns)[1]? = some (.int .i64 v1) ∧ (arr5 ns)[2]? = some (.int .i64 v2) ∧ (arr5 ns)[3]? = some (.int .i64 v3) ∧ (arr5 ns)[4]? = some (.int .i64 v4) ∧ (#[.int .i64 v0, .int .i64 v1, .int .i64 v2, .int .i64 v3, .int .i64 v4] : Array Value) = dc x :=
      ⟨_, _, _, _, _, arr5_any ns hns5 0 (by omega), arr5_any ns hns5 1 (by omega), arr5_any ns hns5 2 (by omega), arr5_any ns hns5 3 (by omega), arr5_any ns hns5 4 (by omega), by rw [← hx]; rfl⟩
     obtain ⟨v0, v1, v2, v3, v4, g0, g1, g2, g3, g4, hdx⟩ := gv
     have c0 : wc.cell? ⟨wo.heap.size, 0, none⟩ = some (.int .i64 v0) := (cells_at harr 0).trans g0
     have c1 : wc.cell? ⟨wo.heap.size, 1, none⟩ = some (.int .i64 v1) := (cells_at harr 1).trans g1
     have c2 : wc.cell? ⟨wo.heap.size, 2, none⟩ = some (.int .i64 v2) := (cells_at harr 2).trans g2
     have c3 : wc.cell? ⟨wo.heap.size, 3, none⟩ = some (.int .i64 v3) := (cells_at harr 3).trans g3
     have c4 : wc.cell? ⟨wo.heap.size, 4, none⟩ = some (.int .i64 v4) := (cells_at harr 4).trans g4
     clear g0 g1 g2 g3 g4
     replace hdx := Lib.hid hdx
     obtain ⟨sf, hsf⟩ : ∃ sf, str (framed x).1 = sf := ⟨_, rfl⟩
     obtain ⟨E, hE2⟩ : ∃ E, (framed x).2 = E := ⟨_, rfl⟩
     have cF := frameOf_any x
     rw [hsf, hE2] at cF
     replace cF := Lib.hid cF
     replace hsf := Lib.hid hsf
     replace hE2 := Lib.hid hE2
     replace hx := Lib.hid hx
     replace hfive := Lib.hid hfive
     replace harr := Lib.hid harr
     go_upto_region 23 with (first | go_skip | (refine st_new 40 _ _ rfl wc 40 _ rfl rfl rfl _ rfl info44 rfl ?_ ?_))
     ·simp [Value.oneCell']
     rw [hdx.out]
     go_upto_region 24 with (first | go_skip | (go_at_call 60; refine (cF.out _).mono ?_; rintro e w2 ⟨rfl, hb2⟩) | (refine ld_row 40 _ rfl rfl _ rfl _ _ _ _ (hnew wc (.cells (dc x) 40)) Try.underlying40 rfl info44 ?_))
     have hba : Below wo.heap.size wo w2 := (hbo.alloc hbo.size (.cells (dc x) 40)).trans (hb2.mono (hbo.alloc hbo.size (.cells (dc x) 40)).size)
     have hbb : Below w.heap.size w w2 := hbl.trans (hba.mono hbl.size)
     have hact : w2.heap[wc.heap.size]? = some (.cells (dc x) 40 (0, 0)) := hkeep hb2 (hnew _ _)
     obtain ⟨se, hse⟩ : ∃ se, sd.extract 0 (c.toNat + 3) = se := ⟨_, rfl⟩
     have hsel : se.data.toList = R.take (c.toNat + 3) := by rw [← hse, Lib.extract_data, hsd.out]; rfl
     have hlee : (c.toNat : Int) + 3 ≤ (sd.size : Int) := by omega
     replace harr := harr.out
     replace hact := Lib.hid hact
     replace hsel := Lib.hid hsel
     replace harr := Lib.hid harr
     have stop : oneL R = none → Hid (rd L = (xs, n)) := fun h => Lib.hid (dead.out h)
     have some_of : ∀ y k, oneL R = some (y, k) → ∃ ns', rdecs 5 B = some (ns', []) ∧ deedOf ns' = y ∧ noted y = true ∧ frame y = R.take (c.toNat + 3) := fun y k h => by
      rw [hct.out] at h ⊢
      rw [hBe.out]
      exact rdecs_of_one h
     rcases hfive.out with ⟨h5, r, hr5⟩ | ⟨h5, hnone⟩
     ·have hk5 : decide ((ns.length : Int) < 5) = false := decide_eq_false (by omega)
      cases hnx : noted x with
      | true =>
       have e1 : E = 0 := by rw [← hE2.out]; simp [framed, hnx]
       have e2 : sf = str (frame x) := by rw [← hsf.out]; simp [framed, hnx]
       subst e1
       by_cases hf : sf = se
       ·have hfr : frame x = R.take (c.toNat + 3) := by rw [← hsel.out, ← hf, e2, str_data]
        have h1 : oneL R = some (x, c.toNat + 3) := by
         rw [hct.out] at hfr ⊢
         exact one_of_rdecs (by omega) hnx hfr
        have hD2 := hD.out
        rw [rd_some h1] at hD2
        have hfb : (sf.toList == se.toList) = true := by rw [hf]; exact beq_self_eq_true _
        have hown1 : Hid (OwnActs (w2.alloc (.cells (dc x) 40)) w.heap.size u4 xs) := Lib.hid ((hown.below hba).below ((Below.refl _ _).alloc (Nat.le_refl _) _))
        have hnk : n + (c.toNat + 3) ≤ s.size := by have := hds.out; omega
        have h8 := frame8 h1
        clear some_of stop
        replace hD2 := Lib.hid hD2
        replace hfr := Lib.hid hfr
        replace h1 := Lib.hid h1
        replace hr5 := Lib.hid hr5
        replace e2 := Lib.hid e2
        replace hf := Lib.hid hf
        replace hnx := Lib.hid hnx
        go_wp2_with (first | go_skip | (at_builtin; refine wpList_append_own _ rfl _ _ 35 rfl w.heap.size 40 i0 z 5 40 Try.underlying35 hi hz0 hz1 hz2 hz3 (by decide) u4 xs.length (flatD xs) rfl hown1.out.1 ⟨w2.heap.size, 0, none⟩ 1 1 (dc x).toList rfl rfl ?c1 ?c2 ?c3 ?c4 ?c5 ?_) | (refine ld_row 40 _ rfl rfl _ rfl _ _ _ _ hact.out Try.underlying40 rfl info44 ?_))
        case c1 =>
         suffices h : ∀ C, C = dc x → ∀ (j : Nat) (u : Value), (dc x)[j]? = some u → C[j]? = some u from h _ rfl
         intro C hC
         subst hC
         exact fun _ _ hu => hu
        case c2 => intro u hu; first | exact Array.all_eq_true_iff_forall_mem.1 (dc_one x) u hu | exact Array.all_eq_true_iff_forall_mem.1 (dc_one x) u (Array.mem_toList_iff.1 hu)
        case c3 => simp only [maxLen]; omega
        case c4 => omega
        case c5 =>
         have h1 := hbb.size
         omega
        intro v' w3 hown2 hgr _
        have hfl : flatD (xs ++ [x]) = flatD xs ++ (dc x).toList := by rw [flatD_append]; simp [flatD]
        have hO2 : OwnActs w3 w.heap.size v' (xs ++ [x]) := ⟨by rw [hfl]; simpa using hown2, by simp; omega⟩
        have hbl2 : Below w.heap.size w w3 := by
         suffices h : ∀ C, World.grownBy (w2.alloc (.cells C 40)) w3 (Value.ownBlock u4) → C = dc x → Below w.heap.size w w3 from h _ hgr rfl
         intro C hgr hC
         subst hC
         have h3 : Below w.heap.size w (w2.alloc (.cells (dc x) 40)) := hbb.alloc hbb.size _
         refine h3.grown hgr h3.size fun g hg => ?_
         rcases hown.1.2 with ⟨rfl, _⟩ | ⟨g', cap, cur, rfl, hb', _⟩
         ·simp [Value.ownBlock] at hg
         ·simp [Value.ownBlock] at hg; omega
        replace hown2 := Lib.hid hown2
        replace hfl := Lib.hid hfl
        clear hgr hown1 hown
        go_wp2
        go_roundg (s.size - (n + (c.toNat + 3)))
        case measure => omega
        case rel => exact ⟨n + (c.toNat + 3), xs ++ [x], by omega, rfl, by go_num, hO2, by simp; omega, by rw [hD2.out, show L.drop (n + (c.toNat + 3)) = R.drop (c.toNat + 3) from by rw [hR.out, List.drop_drop]]; simp [Nat.add_assoc], hbl2⟩
       ·have hfb : (sf.toList == se.toList) = false := by
         rw [beq_eq_false_iff_ne]
         intro e
         exact hf (bytes_eq e)
        have fin := stop (by
         cases h1 : oneL R with
         | none => rfl
         | some q =>
          obtain ⟨ns', h2, h3, h4, h6⟩ := some_of q.1 q.2 h1
          rw [hr5] at h2
          simp only [Option.some.injEq, Prod.mk.injEq] at h2
          rw [← h2.1, hx.out] at h3
          refine absurd ?_ hf
          have h7 : se = str (R.take (c.toNat + 3)) := by rw [← hsel.out, str_of]
          rw [h7, ← h6, ← h3, e2])
        clear some_of stop
        replace hr5 := Lib.hid hr5
        replace e2 := Lib.hid e2
        replace hf := Lib.hid hf
        replace hnx := Lib.hid hnx
        go_wp2_with fail
        go_ret2
        exact ⟨⟨u4, by rw [fin.out]; rfl, by rw [fin.out]; exact hown.below hba⟩, hbb⟩
      | false =>
       have e1 : E = 3 := by rw [← hE2.out]; simp [framed, hnx]
       subst e1
       have fin := stop (by
        cases h1 : oneL R with
        | none => rfl
        | some q =>
         obtain ⟨ns', h2, h3, h4, _⟩ := some_of q.1 q.2 h1
         rw [hr5] at h2
         simp only [Option.some.injEq, Prod.mk.injEq] at h2
         rw [← h2.1, hx.out] at h3
         rw [← h3, hnx] at h4
         cases h4)
       clear some_of stop
       replace hr5 := Lib.hid hr5
       replace hse := Lib.hid hse
       replace hnx := Lib.hid hnx
       go_wp2_with fail
       go_ret2
       exact ⟨⟨u4, by rw [fin.out]; rfl, by rw [fin.out]; exact hown.below hba⟩, hbb⟩
     ·have hk5 : decide ((ns.length : Int) < 5) = true := decide_eq_true (by omega)
      have fin := stop (by
       cases h1 : oneL R with
       | none => rfl
       | some q =>
        obtain ⟨ns', h2, _⟩ := some_of q.1 q.2 h1
        rw [hnone] at h2
        cases h2)
      clear some_of stop
      replace hnone := Lib.hid hnone
      replace hse := Lib.hid hse
      go_wp2_with fail
      go_ret2
      exact ⟨⟨u4, by rw [fin.out]; rfl, by rw [fin.out]; exact hown.below hba⟩, hbb⟩
   ·have fin := dead (by
     rw [hct]
     have h1 : t.length + 1 = sd.size := by
      have h2 := hRl
      rw [hct] at h2
      simp only [List.length_cons] at h2
      rw [hds]; exact h2
     exact oneL_cut (by omega))
    have hd1 : decide ((sd.size : Int) < (c.toNat : Int) + 3) = true := decide_eq_true (by omega)
    have hd0 : decide ((n : Int) < s.size) = true := decide_eq_true (by omega)
    clear dead
    replace fin := Lib.hid fin
    replace hR := Lib.hid hR
    replace hD := Lib.hid hD
    replace hRl := Lib.hid hRl
    replace hLl := Lib.hid hLl
    replace hct := Lib.hid hct
    replace hsd := Lib.hid hsd
    replace hds := Lib.hid hds
    go_wp2_with fail
    go_ret2
    exact ⟨⟨u4, by rw [fin.out]; rfl, by rw [fin.out]; exact hown⟩, hbl⟩
  ·have fin := dead (by
    have : R = [] := List.length_eq_zero_iff.1 (by omega)
    rw [this]; rfl)
   have hd : decide ((n : Int) < s.size) = false := decide_eq_false (by omega)
   replace fin := Lib.hid fin
   clear dead
   replace hR := Lib.hid hR
   replace hD := Lib.hid hD
   replace hRl := Lib.hid hRl
   replace hLl := Lib.hid hLl
   go_wp2_with fail
   go_ret2
   exact ⟨⟨u4, by rw [fin.out]; rfl, by rw [fin.out]; exact hown⟩, hbl⟩
end Go.Proofs.Ytggfdkkhlokmlab

namespace Go.Proofs.Ytggfdkkhlokmlab
open Go.RowKit
attribute [local go_sem] dc_size dc_0 dc_1 dc_2 dc_3 dc_4
/-- Bytes in a row of the call's own. -/
def bcells (l : List UInt8) : List Value := l.map fun c => .int .u8 (c.toNat : Int)
def OwnBytes (w : World) (base : Nat) (v : Value) (l : List UInt8) : Prop := w.ownsRow base 5 1 v l.length (bcells l)
theorem info5z : ∃ (i : TypeInfo) (z : Value), Try.prog.info? 5 = some i ∧ i.zero = some z ∧ i.size = 1 ∧ i.bytes = 1 ∧ z.cells.size = 1 := by
 have h : (Try.prog.info? 5).map (fun i => (i.zero.map (·.cells.size), i.size, i.bytes)) = some (some 1, 1, 1) := by kernel_rfl
 cases hq : Try.prog.info? 5 with
 | none => simp [hq] at h
 | some i =>
  simp only [hq, Option.map_some, Option.some.injEq, Prod.mk.injEq] at h
  obtain ⟨h1, h2, h3⟩ := h
  cases hz : i.zero with
  | none => simp [hz] at h1
  | some z => exact ⟨i, z, rfl, hz, h2, h3, by simpa [hz] using h1⟩
theorem OwnBytes.alloc {w : World} {base : Nat} {v : Value} {l : List UInt8} (h : OwnBytes w base v l) (o : Obj) : OwnBytes (w.alloc o) base v l := World.ownsRow.alloc h o
theorem OwnBytes.some {w : World} {base : Nat} {v : Value} {l : List UInt8} (h : OwnBytes w base v l) (hl : 5 ≤ l.length) : ∃ g cap, v = .slice (some ⟨g, 0, none⟩) l.length cap := by
 rcases h.2 with ⟨_, h0⟩ | ⟨g, cap, cur, rfl, _⟩
 ·omega
 ·exact ⟨g, cap, rfl⟩
/-- A row of the call's own bytes, turned into a string. -/
theorem convOwn {w : World} {base : Nat} {v : Value} {l : List UInt8} (h : OwnBytes w base v l) (hl : 5 ≤ l.length) : (convert 96 9 v).run Try.prog w = .ok (.string (str l)) w := by
 rcases h.2 with ⟨_, h0⟩ | ⟨g, cap, cur, rfl, hb, hg, hn, hc, hsz, htake⟩
 ·omega
 ·refine run_convert_bytes_back w 96 9 5 ⟨g, 0, none⟩ cap l Try.underlying96 Try.underlying5 Try.underlying9 ?_
  intro j hj
  have hadd : (⟨g, 0, none⟩ : Addr).add j = ⟨g, 0 + j, none⟩ := by unfold Addr.add; split <;> simp_all
  rw [hadd, Nat.zero_add, cells_at hg]
  have h1 : (bcells l)[j]? = some (.int .u8 (l[j].toNat : Int)) := by simp [bcells, hj]
  rw [← htake, List.getElem?_take_of_lt (by omega)] at h1
  simpa using h1
/-- The first k numbers of an act, as bytes. -/
def encTo (x : Deed) : Nat → List UInt8
 | 0 => []
 | k + 1 => encTo x k ++ enc (zig (nth x k))
theorem encTo_5 (x : Deed) : encTo x 5 = body x := by simp [encTo, body, nth]
theorem encTo_len {x : Deed} (hn : noted x = true) : ∀ k, k ≤ 5 → (encTo x k).length ≤ 5 * k
 | 0, _ => by simp [encTo]
 | k + 1, h => by
  have h1 := encTo_len hn k (by omega)
  have h2 := enc_zig_len ((noted_iff x).1 hn k (by omega))
  simp only [encTo, List.length_append]; omega
theorem xor_full (a : Nat) (ha : a < 18446744073709551616) : 18446744073709551615 ^^^ a = 18446744073709551615 - a := by
 have h1 : (~~~(BitVec.ofNat 64 a)).toNat = 2 ^ 64 - 1 - (BitVec.ofNat 64 a).toNat := BitVec.toNat_not
 have h2 : ~~~(BitVec.ofNat 64 a) = BitVec.allOnes 64 ^^^ BitVec.ofNat 64 a := BitVec.not_def
 rw [h2, BitVec.toNat_xor, BitVec.toNat_allOnes, BitVec.toNat_ofNat, Nat.mod_eq_of_lt ha] at h1
 exact h1
theorem zig_neg {n : Int} (h0 : n < 0) (h1 : -1073741824 ≤ n) : bits .xor .u64 IntKind.u64.max (IntKind.u64.wrap (IntKind.u64.wrap n * 2)) = ((zig n : Nat) : Int) := by
 have e1 : IntKind.u64.wrap n = n + 18446744073709551616 := by simp [IntKind.wrap, IntKind.bits, IntKind.signed]; omega
 have e2 : IntKind.u64.wrap (IntKind.u64.wrap n * 2) = ((18446744073709551616 - (zig n + 1) : Nat) : Int) := by
  rw [e1]
  simp only [zig, if_neg (by omega : ¬ 0 ≤ n)]
  simp [IntKind.wrap, IntKind.bits, IntKind.signed]; omega
 have e3 : IntKind.u64.max = ((18446744073709551615 : Nat) : Int) := rfl
 have hz : zig n ≤ 2147483648 := by simp only [zig, if_neg (by omega : ¬ 0 ≤ n)]; omega
 rw [e2, e3, bits_xor_u64_nat _ _ (by omega) (by omega), xor_full _ (by omega)]
 omega
theorem addr_zero0 (b : Nat) : (⟨b, 0, none⟩ : Addr).add 0 = ⟨b, 0, none⟩ := by simp [Addr.add]
theorem or128 (v : Nat) : bits .or .u8 ((v : Int) % 256) 128 = (((UInt8.ofNat (128 + v % 128)).toNat : Nat) : Int) := by
 rw [ofNat_small (by omega)]
 have h : ∀ a : Nat, a < 256 → bits .or .u8 (a : Int) 128 = ((128 + a % 128 : Nat) : Int) := by decide +kernel
 have e : ((v : Int) % 256) = ((v % 256 : Nat) : Int) := by omega
 rw [e, h _ (Nat.mod_lt _ (by omega))]
 omega
theorem zig_wrap {n : Int} (h0 : 0 ≤ n) (h1 : n ≤ 1073741824) : IntKind.u64.wrap (IntKind.u64.wrap n * 2) = n * 2 := by
 simp [IntKind.wrap, IntKind.bits, IntKind.signed]; omega
theorem zig_pos {n : Int} (h0 : 0 ≤ n) : n * 2 = ((zig n : Nat) : Int) := by
 simp only [zig, if_pos h0]; omega
set_option maxRecDepth 100000 in
set_option maxHeartbeats 2000000 in
theorem frame_no (x : Deed) (w : World) (hn : noted x = false) :
  Calls Try.prog 55 #[.agg (dc x)] w fun e w' => e = .returned (.tuple #[.string (str (framed x).1), .int .i64 (framed x).2]) ∧ Below w.heap.size w w' := by
 have hN : ∀ w, Calls Try.prog 73 #[.agg (dc x)] w fun e w' => e = .returned (.bool false) ∧ Below w.heap.size w w' := by
  rw [← hn]; exact fun w => goodAct_any x w
 have hf : framed x = ([], 3) := by simp [framed, hn]
 replace hN := Lib.hid hN
 replace hf := Lib.hid hf
 go_enter Try.func55, Try.ntmps55
 go_wp2_with (first | go_skip | (go_at_call 73; refine (hN.out _).mono ?_; rintro e w1 ⟨rfl, hb1⟩) | (refine ld_row 40 _ rfl rfl _ rfl _ _ _ _ (hnew _ _) Try.underlying40 rfl info44 ?_))
 go_ret2
 exact ⟨by rw [hf.out]; rfl, ((Below.refl w.heap.size w).alloc (Nat.le_refl _) _).trans (hb1.mono (by rw [alloc_size]; omega))⟩
set_option maxRecDepth 100000 in
set_option maxHeartbeats 4000000 in
theorem frame_yes (x : Deed) (w : World) (hn : noted x = true) :
  Calls Try.prog 55 #[.agg (dc x)] w fun e w' => e = .returned (.tuple #[.string (str (framed x).1), .int .i64 (framed x).2]) ∧ Below w.heap.size w w' := by
 have hN : ∀ w, Calls Try.prog 73 #[.agg (dc x)] w fun e w' => e = .returned (.bool true) ∧ Below w.heap.size w w' := by
  rw [← hn]; exact fun w => goodAct_any x w
 have hf : framed x = (frame x, 0) := by simp [framed, hn]
 have hnk := (noted_iff x).1 hn
 obtain ⟨i0, z, hi, hz0, hz1, hz2, hz3⟩ := info5z
 replace hN := Lib.hid hN
 replace hf := Lib.hid hf
 replace hnk := Lib.hid hnk
 go_enter Try.func55, Try.ntmps55
 go_wp2_with (first | go_skip | (go_at_call 73; refine (hN.out _).mono ?_; rintro e w1 ⟨rfl, hb1⟩; have hx0 := cells_at (hkeep hb1 (hnew w (.cells (dc x) 40)))) | (refine ld_row 40 _ rfl rfl _ rfl _ _ _ _ (hnew _ _) Try.underlying40 rfl info44 ?_))
 have hB : Below w.heap.size w w1 := ((Below.refl w.heap.size w).alloc (Nat.le_refl _) _).trans (hb1.mono (by rw [alloc_size]; omega))
 clear hb1 hx0
 have hix := Lib.hid (index5 x)
 go_loopg [4, 6, 7, 24] 5 (fun g b _ _ i wr => ∃ k : Nat, k ≤ 5 ∧ g = 5 - k ∧ i = .int .i64 k ∧ OwnBytes wr w.heap.size b (encTo x k) ∧ Below w.heap.size w wr)
 case atStart => exact ⟨0, by omega, rfl, rfl, ⟨rfl, .inl ⟨rfl, rfl⟩⟩, hB⟩
 case round =>
  obtain ⟨k, hk, rfl, rfl, hown, hbl⟩ := hrel
  obtain ⟨wo, rfl⟩ : ∃ wo : World, wo = wr := ⟨_, rfl⟩
  by_cases hk5 : k < 5
  ·have hk5d : decide ((k : Int) < 5) = true := decide_eq_true (by omega)
   have hi5 := fun w => hix.out k hk5 w
   have hnn := of_decide_eq_true (hnk.out k hk5)
   have hlen := encTo_len hn k (by omega)
   have hsz := enc_zig_len (hnk.out k hk5)
   obtain ⟨n, hN1⟩ : ∃ n, nth x k = n := ⟨_, rfl⟩
   rw [hN1] at hi5 hnn hsz
   replace hN1 := Lib.hid hN1
   replace hsz := Lib.hid hsz
   replace hlen := Lib.hid hlen
   obtain ⟨ui, hui⟩ : ∃ ui : Int, ui = ((zig n : Nat) : Int) := ⟨_, rfl⟩
   have hpos : 0 ≤ n → IntKind.u64.wrap (IntKind.u64.wrap n * 2) = ui := fun h0 => by rw [hui, ← zig_pos h0]; exact zig_wrap h0 (by omega)
   have hneg : ¬ 0 ≤ n → bits .xor .u64 IntKind.u64.max (IntKind.u64.wrap (IntKind.u64.wrap n * 2)) = ui := fun h0 => by rw [hui]; exact zig_neg (by omega) (by omega)
   have hub := zig_lt (n := n) (decide_eq_true hnn)
   have huib : 0 ≤ ui ∧ ui ≤ 2147483648 := by omega
   replace hub := Lib.hid hub
   replace hui := Lib.hid hui
   replace hpos := Lib.hid hpos
   replace hneg := Lib.hid hneg
   go_upto_if 31 with fail
   go_cut [7] (fun s7 wx => s7 = .int .u64 ui ∧ wo = wx)
   case first =>
    by_cases h0 : 0 ≤ n
    ·have h0d : decide (n < 0) = false := decide_eq_false (by omega)
     go_wp2_with fail
     go_meet
     case rel => exact ⟨by rw [← hpos.out h0], rfl⟩
    ·have h0d : decide (n < 0) = true := decide_eq_true (by omega)
     go_wp2_with fail
     go_meet
     case rel => exact ⟨by rw [← hneg.out h0], rfl⟩
   case rest =>
    obtain ⟨rfl, rfl⟩ := hcut
    go_wp2_with fail
    go_loopg [4, 7] (zig n) (fun g b u wr => ∃ (dn : List UInt8) (v : Nat) (vi : Int), vi = v ∧ v = g ∧ u = .int .u64 vi ∧ v ≤ zig n ∧ enc (zig n) = dn ++ enc v ∧ OwnBytes wr w.heap.size b (encTo x k ++ dn) ∧ Below w.heap.size w wr)
    case atStart => exact ⟨[], zig n, ui, hui.out, rfl, rfl, Nat.le_refl _, rfl, by rw [List.append_nil]; exact hown, hbl⟩
    case round =>
     obtain ⟨dn, v, vi, hvi, rfl, rfl, hvle, henc, hown2, hbl2⟩ := hrel
     obtain ⟨wi, rfl⟩ : ∃ wi : World, wi = wr := ⟨_, rfl⟩
     have hvb : 0 ≤ vi ∧ vi ≤ 2147483648 := by have := hub.out; omega
     have hdl : (encTo x k ++ dn).length + 1 ≤ 25 := by
      have h1 := hsz.out
      have h2 := hlen.out
      have h3 := enc_len_pos v
      rw [henc] at h1
      simp only [List.length_append] at h1 ⊢
      omega
     by_cases hbig : v < 128
     ·have hgd : decide (128 ≤ vi) = false := decide_eq_false (by omega)
      have hvb2 : vi < 128 := by omega
      have hbi : vi = (((UInt8.ofNat v).toNat : Nat) : Int) := by rw [ofNat_small (by omega), hvi]
      have henc2 : enc (zig n) = dn ++ [UInt8.ofNat v] := by rw [henc, enc_small hbig]
      replace hbi := Lib.hid hbi
      replace hvi := Lib.hid hvi
      replace henc := Lib.hid henc
      replace henc2 := Lib.hid henc2
      replace hvle := Lib.hid hvle
      replace hdl := Lib.hid hdl
      have hal : ∀ o : Obj, (wi.alloc o).ownsRow w.heap.size 5 1 u4 (encTo x k ++ dn).length (bcells (encTo x k ++ dn)) := fun o => World.ownsRow.alloc hown2 o
      replace hal := Lib.hid hal
      replace hown2 := Lib.hid hown2
      go_wp2_with (first | go_skip | (at_builtin; refine wpList_append_own _ rfl _ _ 96 rfl w.heap.size 5 i0 z 1 1 Try.underlying96 hi hz0 hz1 hz2 hz3 (by decide) u4 (encTo x k ++ dn).length (bcells (encTo x k ++ dn)) rfl (hal.out _) ⟨wi.heap.size, 0, none⟩ 1 1 [.int .u8 vi] rfl rfl ?d1 ?d2 ?d3 ?d4 ?d5 ?_))
      case d1 =>
       intro j u hu
       obtain rfl : j = 0 := by have := (List.getElem?_eq_some_iff.1 hu).1; simpa using this
       rw [addr_zero0]
       exact (cells_at (hnew wi (.cells #[.int .u8 vi] 5)) 0).trans (by simpa using hu)
      case d2 => intro u hu; obtain rfl := List.mem_singleton.1 hu; rfl
      case d3 => have := hdl.out; simp only [maxLen]; omega
      case d4 => have := hdl.out; omega
      case d5 => rw [alloc_size]; have := hbl2.size; omega
      intro v' w3 hown3 hgr _
      have hO3 : OwnBytes w3 w.heap.size v' (encTo x (k + 1)) := by
       have h0 : encTo x (k + 1) = encTo x k ++ (dn ++ [UInt8.ofNat v]) := by rw [← henc2.out, ← hN1.out]; rfl
       have h1 : bcells (encTo x k ++ (dn ++ [UInt8.ofNat v])) = bcells (encTo x k ++ dn) ++ [.int .u8 vi] := by rw [hbi.out]; simp [bcells]
       have h2 : (encTo x k ++ (dn ++ [UInt8.ofNat v])).length = (encTo x k).length + dn.length + 1 := by simp [Nat.add_assoc]
       rw [h0]
       unfold OwnBytes
       rw [h1, h2]
       exact hown3
      have hbl3 : Below w.heap.size w w3 := by
       have h4 := hbl2.alloc hbl2.size (.cells #[.int .u8 vi] 5)
       refine h4.grown hgr h4.size fun g hg => ?_
       rcases hown2.out.2 with ⟨h5, _⟩ | ⟨g', cap, cur, h5, hb', _⟩
       ·rw [h5] at hg; simp [Value.ownBlock] at hg
       ·rw [h5] at hg; simp [Value.ownBlock] at hg; omega
      replace hown3 := Lib.hid hown3
      clear hgr
      go_wp2_with fail
      go_roundg (5 - (k + 1))
      case measure => omega
      case rel => exact ⟨k + 1, by omega, rfl, by go_num, hO3, hbl3⟩
     ·have hgd : decide (128 ≤ vi) = true := decide_eq_true (by omega)
      obtain ⟨bi, hbi⟩ : ∃ bi : Int, bi = (((UInt8.ofNat (128 + v % 128)).toNat : Nat) : Int) := ⟨_, rfl⟩
      have hor : bits .or .u8 (vi % 256) 128 = bi := by rw [hbi, hvi]; exact or128 v
      replace hbi := Lib.hid hbi
      have henc2 : enc (zig n) = (dn ++ [UInt8.ofNat (128 + v % 128)]) ++ enc (v / 128) := by rw [henc, enc_big hbig]; simp
      replace hvi := Lib.hid hvi
      replace henc := Lib.hid henc
      replace henc2 := Lib.hid henc2
      replace hvle := Lib.hid hvle
      replace hdl := Lib.hid hdl
      obtain ⟨ub, hub4⟩ : ∃ ub, ub = u4 := ⟨_, rfl⟩
      have hal : ∀ o : Obj, (wi.alloc o).ownsRow w.heap.size 5 1 u4 (encTo x k ++ dn).length (bcells (encTo x k ++ dn)) := fun o => World.ownsRow.alloc hown2 o
      replace hub4 := Lib.hid hub4
      replace hal := Lib.hid hal
      replace hown2 := Lib.hid hown2
      go_upto_region 12 with (first | go_skip | (at_builtin; go_loud (refine wpList_append_own _ rfl _ _ 96 rfl w.heap.size 5 i0 z 1 1 Try.underlying96 hi hz0 hz1 hz2 hz3 (by decide) u4 (encTo x k ++ dn).length (bcells (encTo x k ++ dn)) rfl (hal.out _) ⟨wi.heap.size, 0, none⟩ 1 1 [.int .u8 bi] rfl rfl ?c1 ?c2 ?c3 ?c4 ?c5 ?_)))
      case c1 =>
       intro j u hu
       obtain rfl : j = 0 := by have := (List.getElem?_eq_some_iff.1 hu).1; simpa using this
       rw [addr_zero0]
       exact (cells_at (hnew wi (.cells #[.int .u8 bi] 5)) 0).trans (by simpa using hu)
      case c2 => intro u hu; obtain rfl := List.mem_singleton.1 hu; rfl
      case c3 => have := hdl.out; simp only [maxLen]; omega
      case c4 => have := hdl.out; omega
      case c5 => rw [alloc_size]; have := hbl2.size; omega
      intro v' w3 hown3 hgr _
      have hO3 : OwnBytes w3 w.heap.size v' (encTo x k ++ (dn ++ [UInt8.ofNat (128 + v % 128)])) := by
       have h1 : bcells (encTo x k ++ (dn ++ [UInt8.ofNat (128 + v % 128)])) = bcells (encTo x k ++ dn) ++ [.int .u8 bi] := by rw [hbi.out]; simp [bcells]
       have h2 : (encTo x k ++ (dn ++ [UInt8.ofNat (128 + v % 128)])).length = (encTo x k).length + dn.length + 1 := by simp [Nat.add_assoc]
       unfold OwnBytes
       rw [h1, h2]
       exact hown3
      have hbl3 : Below w.heap.size w w3 := by
       have h4 := hbl2.alloc hbl2.size (.cells #[.int .u8 bi] 5)
       refine h4.grown hgr h4.size fun g hg => ?_
       rcases hown2.out.2 with ⟨h5, _⟩ | ⟨g', cap, cur, h5, hb', _⟩
       ·rw [h5] at hg; simp [Value.ownBlock] at hg
       ·rw [h5] at hg; simp [Value.ownBlock] at hg; omega
      replace hown3 := Lib.hid hown3
      clear hgr
      go_wp2_with fail
      go_roundg (v / 128)
      case measure => omega
      case rel => exact ⟨dn ++ [UInt8.ofNat (128 + v % 128)], v / 128, vi / 128, by rw [hvi.out]; omega, rfl, rfl, by have := hvle.out; omega, henc2.out, hO3, hbl3⟩
  ·have hk5d : decide ((k : Int) < 5) = false := decide_eq_false (by omega)
   obtain rfl : k = 5 := by omega
   rw [encTo_5] at hown
   have hbl5 := body_len hn
   have hcv1 := convOwn hown hbl5.1
   obtain ⟨n, hnl⟩ : ∃ n, (body x).length = n := ⟨_, rfl⟩
   have hA := convOwn (OwnBytes.alloc hown (.cells #[.int .u8 n] 5)) hbl5.1
   obtain ⟨g, cap, hv⟩ := hown.some hbl5.1
   rw [hnl] at hv hbl5
   subst hv
   have hS := fun w => sum8_any (str (body x)) w (by rw [str_size]; omega)
   rw [str_data] at hS
   have hbs : (str (body x)).size = n := by rw [str_size]; exact hnl
   have hck := ck_lt (body x)
   obtain ⟨X, hX⟩ : ∃ X, (ck (body x)).1 = X := ⟨_, rfl⟩
   obtain ⟨Y, hY⟩ : ∃ Y, (ck (body x)).2 = Y := ⟨_, rfl⟩
   rw [hX, hY] at hS hck
   obtain ⟨hx251, hy251⟩ := hck
   have hcv2 := conv_new wo n (by omega)
   have hcv4 := conv2_new (wo.alloc (.cells #[.int .u8 n] 5)) X Y (by omega) (by omega)
   rw [alloc_size] at hcv4
   have hfr : frame x = UInt8.ofNat n :: (body x ++ [UInt8.ofNat X, UInt8.ofNat Y]) := by rw [← hnl, ← hX, ← hY]; rfl
   have c1 : (str [UInt8.ofNat n]).size = 1 := rfl
   have c2 : str [UInt8.ofNat n] ++ str (body x) = str (UInt8.ofNat n :: body x) := str_app _ _
   have c3 : (str (UInt8.ofNat n :: body x)).size ≤ 26 := by rw [str_size]; simp only [List.length_cons]; omega
   have c4 : (str [UInt8.ofNat X, UInt8.ofNat Y]).size = 2 := rfl
   have c5 : str (UInt8.ofNat n :: body x) ++ str [UInt8.ofNat X, UInt8.ofNat Y] = str (frame x) := by rw [str_app, hfr]; rfl
   replace hfr := Lib.hid hfr
   replace hS := Lib.hid hS
   replace hX := Lib.hid hX
   replace hY := Lib.hid hY
   replace hnl := Lib.hid hnl
   go_wp2_with (first | go_skip | (go_at_call 74; refine (hS.out _).mono ?_; rintro e w2 ⟨rfl, rfl⟩))
   go_ret2
   exact ⟨by rw [hf.out]; rfl, (hbl.alloc hbl.size _).alloc (hbl.alloc hbl.size _).size _⟩
theorem frame_any (x : Deed) (w : World) :
  Calls Try.prog 55 #[.agg (dc x)] w fun e w' => e = .returned (.tuple #[.string (str (framed x).1), .int .i64 (framed x).2]) ∧ Below w.heap.size w w' := by
 cases hn : noted x
 ·exact frame_no x w hn
 ·exact frame_yes x w hn
end Go.Proofs.Ytggfdkkhlokmlab


