/- Package book and its reference: the checksum, the size of an act, one number at the front of bytes. -/
import Derived.Test.YtggfdkkhlokmlabChecked
import Derived.Deep.LoopGhost
import Derived.WalkSpells
import Derived.Deep.Cut
import Derived.Lib.IndexBytes
import Derived.Test.YtggfdkkhlokmlabCLed
import Derived.Test.YtggfdkkhlokmlabCPln
import Derived.Test.YtggfdkkhlokmlabCMem
namespace Go.Proofs.Ytggfdkkhlokmlab
open Go.RowKit

theorem take_byte (s : ByteArray) (k : Nat) (h : k < s.size) : s.data.toList.take (k + 1) = s.data.toList.take k ++ [s[k]] := by
 rw [List.take_succ_eq_append_getElem (by simpa using h)]; rfl
theorem take_all (s : ByteArray) (k : Nat) (h : s.size ≤ k) : s.data.toList.take k = s.data.toList := List.take_of_length_le (by simpa using h)
theorem int_eq {k : IntKind} {a b : Int} (h : a = b) : Value.int k a = Value.int k b := by rw [h]

set_option maxHeartbeats 1000000 in
theorem sum8_any (s : ByteArray) (w : World) (hs : s.size ≤ 140737488355328) :
  Calls Try.prog 74 #[.string s] w fun e w' => e = .returned (.tuple #[.int .u8 (ck s.data.toList).1, .int .u8 (ck s.data.toList).2]) ∧ w = w' := by
 go_enter Try.func74, Try.ntmps74
 go_wp2
 go_loopg [4, 5, 9] s.size (fun g x y i wr => ∃ k : Nat, k ≤ s.size ∧ g = s.size - k ∧ i = .int .i64 k ∧ x = .int .i64 (ck (s.data.toList.take k)).1 ∧ y = .int .i64 (ck (s.data.toList.take k)).2 ∧ wr = w)
 case atStart => exact ⟨0, by omega, rfl, rfl, rfl, rfl, rfl⟩
 case round =>
  obtain ⟨k, hk, rfl, rfl, rfl, rfl, rfl⟩ := hrel
  have hlt := ck_lt (s.data.toList.take k)
  obtain ⟨hl1, hl2⟩ := hlt
  by_cases h4 : k < s.size
  ·have hsn := Lib.hid (take_byte s k h4)
   have hc : s[k].toNat < 256 := s[k].toNat_lt
   go_wp2
   go_roundg (s.size - (k + 1))
   case measure => omega
   case rel =>
    refine ⟨k + 1, by omega, rfl, by go_num, ?_, ?_, rfl⟩
    ·rw [hsn.out, ck_snoc]; exact int_eq (by simp only [ckStep]; omega)
    ·rw [hsn.out, ck_snoc]; exact int_eq (by simp only [ckStep]; omega)
  ·have hd : decide ((k : Int) < s.size) = false := by simp; omega
   have hall := Lib.hid (take_all s k (by omega))
   go_wp2
   go_ret2
   refine ⟨?_, rfl⟩
   rw [hall.out]
   rfl
end Go.Proofs.Ytggfdkkhlokmlab

namespace Go.Proofs.Ytggfdkkhlokmlab
open Go.RowKit

theorem mask127 (c : Nat) (hc : c < 256) : bits BinOp.and IntKind.u8 (c : Int) 127 = ((c % 128 : Nat) : Int) := by
 have h := bits_mask .u8 8 (by decide) wraps_u8 7 (by decide) (c : Int) (by omega) (by omega)
 have e : ((2 : Int) ^ 7 - 1) = 127 := rfl
 rw [e] at h
 rw [h]
 rfl
theorem digit0 (v c : Nat) (hc : c < 256) (hv : v < 1) : bits BinOp.or IntKind.u64 (v : Int) (IntKind.u64.wrap (IntKind.u64.wrap (bits BinOp.and IntKind.u8 (c : Int) 127))) = ((v + c % 128 * 1 : Nat) : Int) := by
 rw [mask127 c hc, IntWalk.u64_in ((c % 128 : Nat) : Int) (by omega), IntWalk.u64_in _ (by omega), u64_or_nat _ _ (by omega) (by omega)]
 obtain rfl : v = 0 := by omega
 simp
theorem digit1 (v c : Nat) (hc : c < 256) (hv : v < 128) : bits BinOp.or IntKind.u64 (v : Int) (IntKind.u64.wrap (IntKind.u64.wrap (bits BinOp.and IntKind.u8 (c : Int) 127) * 128)) = ((v + c % 128 * 128 : Nat) : Int) := by
 rw [mask127 c hc, IntWalk.u64_in ((c % 128 : Nat) : Int) (by omega), IntWalk.u64_in _ (by omega)]
 rw [show ((c % 128 : Nat) : Int) * 128 = ((2 ^ 7 * (c % 128) : Nat) : Int) from by omega, u64_or_nat _ _ (by omega) (by omega), Nat.or_comm, ← Nat.two_pow_add_eq_or_of_lt hv]
 omega
theorem digit2 (v c : Nat) (hc : c < 256) (hv : v < 16384) : bits BinOp.or IntKind.u64 (v : Int) (IntKind.u64.wrap (IntKind.u64.wrap (bits BinOp.and IntKind.u8 (c : Int) 127) * 16384)) = ((v + c % 128 * 16384 : Nat) : Int) := by
 rw [mask127 c hc, IntWalk.u64_in ((c % 128 : Nat) : Int) (by omega), IntWalk.u64_in _ (by omega)]
 rw [show ((c % 128 : Nat) : Int) * 16384 = ((2 ^ 14 * (c % 128) : Nat) : Int) from by omega, u64_or_nat _ _ (by omega) (by omega), Nat.or_comm, ← Nat.two_pow_add_eq_or_of_lt hv]
 omega
theorem digit3 (v c : Nat) (hc : c < 256) (hv : v < 2097152) : bits BinOp.or IntKind.u64 (v : Int) (IntKind.u64.wrap (IntKind.u64.wrap (bits BinOp.and IntKind.u8 (c : Int) 127) * 2097152)) = ((v + c % 128 * 2097152 : Nat) : Int) := by
 rw [mask127 c hc, IntWalk.u64_in ((c % 128 : Nat) : Int) (by omega), IntWalk.u64_in _ (by omega)]
 rw [show ((c % 128 : Nat) : Int) * 2097152 = ((2 ^ 21 * (c % 128) : Nat) : Int) from by omega, u64_or_nat _ _ (by omega) (by omega), Nat.or_comm, ← Nat.two_pow_add_eq_or_of_lt hv]
 omega
theorem digit4 (v c : Nat) (hc : c < 256) (hv : v < 268435456) : bits BinOp.or IntKind.u64 (v : Int) (IntKind.u64.wrap (IntKind.u64.wrap (bits BinOp.and IntKind.u8 (c : Int) 127) * 268435456)) = ((v + c % 128 * 268435456 : Nat) : Int) := by
 rw [mask127 c hc, IntWalk.u64_in ((c % 128 : Nat) : Int) (by omega), IntWalk.u64_in _ (by omega)]
 rw [show ((c % 128 : Nat) : Int) * 268435456 = ((2 ^ 28 * (c % 128) : Nat) : Int) from by omega, u64_or_nat _ _ (by omega) (by omega), Nat.or_comm, ← Nat.two_pow_add_eq_or_of_lt hv]
 omega
theorem decstep0 (c : UInt8) (rest : List UInt8) (v u : Nat) (h6 : ¬ c.toNat < 128) (hu : u = v + c.toNat % 128 * 1) :
  ((dec (5 - 0) (decide (0 = 0)) (c :: rest)).map fun x => (v + 128 ^ 0 * x.1, x.2 + 0)) = (dec (5 - (0 + 1)) (decide (0 + 1 = 0)) rest).map fun x => (u + 128 ^ (0 + 1) * x.1, x.2 + (0 + 1)) := by
 have e : dec (5 - 0) (decide (0 = 0)) (c :: rest) = (dec (5 - (0 + 1)) (decide (0 + 1 = 0)) rest).map fun x => (c.toNat - 128 + 128 * x.1, x.2 + 1) := by
  show dec (4 + 1) true (c :: rest) = (dec 4 false rest).map _
  first | rw [dec, if_neg h6] | simp [dec, h6]
 rw [e, Option.map_map]
 congr 1
 funext x
 have hc : c.toNat < 256 := c.toNat_lt
 show (v + 128 ^ 0 * (c.toNat - 128 + 128 * x.1), x.2 + 1 + 0) = (u + 128 ^ (0 + 1) * x.1, x.2 + (0 + 1))
 have e1 : v + 128 ^ 0 * (c.toNat - 128 + 128 * x.1) = u + 128 ^ (0 + 1) * x.1 := by
  have p1 : (128 : Nat) ^ 0 = 1 := rfl
  have p2 : (128 : Nat) ^ (0 + 1) = 128 := rfl
  rw [p1, p2, hu]
  omega
 have e2 : x.2 + 1 + 0 = x.2 + (0 + 1) := by omega
 rw [e1, e2]
theorem decstep1 (c : UInt8) (rest : List UInt8) (v u : Nat) (h6 : ¬ c.toNat < 128) (hu : u = v + c.toNat % 128 * 128) :
  ((dec (5 - 1) (decide (1 = 0)) (c :: rest)).map fun x => (v + 128 ^ 1 * x.1, x.2 + 1)) = (dec (5 - (1 + 1)) (decide (1 + 1 = 0)) rest).map fun x => (u + 128 ^ (1 + 1) * x.1, x.2 + (1 + 1)) := by
 have e : dec (5 - 1) (decide (1 = 0)) (c :: rest) = (dec (5 - (1 + 1)) (decide (1 + 1 = 0)) rest).map fun x => (c.toNat - 128 + 128 * x.1, x.2 + 1) := by
  show dec (3 + 1) false (c :: rest) = (dec 3 false rest).map _
  first | rw [dec, if_neg h6] | simp [dec, h6]
 rw [e, Option.map_map]
 congr 1
 funext x
 have hc : c.toNat < 256 := c.toNat_lt
 show (v + 128 ^ 1 * (c.toNat - 128 + 128 * x.1), x.2 + 1 + 1) = (u + 128 ^ (1 + 1) * x.1, x.2 + (1 + 1))
 have e1 : v + 128 ^ 1 * (c.toNat - 128 + 128 * x.1) = u + 128 ^ (1 + 1) * x.1 := by
  have p1 : (128 : Nat) ^ 1 = 128 := rfl
  have p2 : (128 : Nat) ^ (1 + 1) = 16384 := rfl
  rw [p1, p2, hu]
  omega
 have e2 : x.2 + 1 + 1 = x.2 + (1 + 1) := by omega
 rw [e1, e2]
theorem decstep2 (c : UInt8) (rest : List UInt8) (v u : Nat) (h6 : ¬ c.toNat < 128) (hu : u = v + c.toNat % 128 * 16384) :
  ((dec (5 - 2) (decide (2 = 0)) (c :: rest)).map fun x => (v + 128 ^ 2 * x.1, x.2 + 2)) = (dec (5 - (2 + 1)) (decide (2 + 1 = 0)) rest).map fun x => (u + 128 ^ (2 + 1) * x.1, x.2 + (2 + 1)) := by
 have e : dec (5 - 2) (decide (2 = 0)) (c :: rest) = (dec (5 - (2 + 1)) (decide (2 + 1 = 0)) rest).map fun x => (c.toNat - 128 + 128 * x.1, x.2 + 1) := by
  show dec (2 + 1) false (c :: rest) = (dec 2 false rest).map _
  first | rw [dec, if_neg h6] | simp [dec, h6]
 rw [e, Option.map_map]
 congr 1
 funext x
 have hc : c.toNat < 256 := c.toNat_lt
 show (v + 128 ^ 2 * (c.toNat - 128 + 128 * x.1), x.2 + 1 + 2) = (u + 128 ^ (2 + 1) * x.1, x.2 + (2 + 1))
 have e1 : v + 128 ^ 2 * (c.toNat - 128 + 128 * x.1) = u + 128 ^ (2 + 1) * x.1 := by
  have p1 : (128 : Nat) ^ 2 = 16384 := rfl
  have p2 : (128 : Nat) ^ (2 + 1) = 2097152 := rfl
  rw [p1, p2, hu]
  omega
 have e2 : x.2 + 1 + 2 = x.2 + (2 + 1) := by omega
 rw [e1, e2]
theorem decstep3 (c : UInt8) (rest : List UInt8) (v u : Nat) (h6 : ¬ c.toNat < 128) (hu : u = v + c.toNat % 128 * 2097152) :
  ((dec (5 - 3) (decide (3 = 0)) (c :: rest)).map fun x => (v + 128 ^ 3 * x.1, x.2 + 3)) = (dec (5 - (3 + 1)) (decide (3 + 1 = 0)) rest).map fun x => (u + 128 ^ (3 + 1) * x.1, x.2 + (3 + 1)) := by
 have e : dec (5 - 3) (decide (3 = 0)) (c :: rest) = (dec (5 - (3 + 1)) (decide (3 + 1 = 0)) rest).map fun x => (c.toNat - 128 + 128 * x.1, x.2 + 1) := by
  show dec (1 + 1) false (c :: rest) = (dec 1 false rest).map _
  first | rw [dec, if_neg h6] | simp [dec, h6]
 rw [e, Option.map_map]
 congr 1
 funext x
 have hc : c.toNat < 256 := c.toNat_lt
 show (v + 128 ^ 3 * (c.toNat - 128 + 128 * x.1), x.2 + 1 + 3) = (u + 128 ^ (3 + 1) * x.1, x.2 + (3 + 1))
 have e1 : v + 128 ^ 3 * (c.toNat - 128 + 128 * x.1) = u + 128 ^ (3 + 1) * x.1 := by
  have p1 : (128 : Nat) ^ 3 = 2097152 := rfl
  have p2 : (128 : Nat) ^ (3 + 1) = 268435456 := rfl
  rw [p1, p2, hu]
  omega
 have e2 : x.2 + 1 + 3 = x.2 + (3 + 1) := by omega
 rw [e1, e2]
theorem decstep4 (c : UInt8) (rest : List UInt8) (v u : Nat) (h6 : ¬ c.toNat < 128) (hu : u = v + c.toNat % 128 * 268435456) :
  ((dec (5 - 4) (decide (4 = 0)) (c :: rest)).map fun x => (v + 128 ^ 4 * x.1, x.2 + 4)) = (dec (5 - (4 + 1)) (decide (4 + 1 = 0)) rest).map fun x => (u + 128 ^ (4 + 1) * x.1, x.2 + (4 + 1)) := by
 have e : dec (5 - 4) (decide (4 = 0)) (c :: rest) = (dec (5 - (4 + 1)) (decide (4 + 1 = 0)) rest).map fun x => (c.toNat - 128 + 128 * x.1, x.2 + 1) := by
  show dec (0 + 1) false (c :: rest) = (dec 0 false rest).map _
  first | rw [dec, if_neg h6] | simp [dec, h6]
 rw [e, Option.map_map]
 congr 1
 funext x
 have hc : c.toNat < 256 := c.toNat_lt
 show (v + 128 ^ 4 * (c.toNat - 128 + 128 * x.1), x.2 + 1 + 4) = (u + 128 ^ (4 + 1) * x.1, x.2 + (4 + 1))
 have e1 : v + 128 ^ 4 * (c.toNat - 128 + 128 * x.1) = u + 128 ^ (4 + 1) * x.1 := by
  have p1 : (128 : Nat) ^ 4 = 268435456 := rfl
  have p2 : (128 : Nat) ^ (4 + 1) = 34359738368 := rfl
  rw [p1, p2, hu]
  omega
 have e2 : x.2 + 1 + 4 = x.2 + (4 + 1) := by omega
 rw [e1, e2]

/-- One number at the front, and how many bytes it has; 0: there is none. -/
def numF (L : List UInt8) : Int × Int := match dec 5 true L with | some (u, k) => (zag u, (k : Int)) | none => (0, 0)
set_option maxRecDepth 100000 in
set_option maxHeartbeats 4000000 in
theorem number_any (s : ByteArray) (w : World) (hs : s.size ≤ 140737488355328) :
  Calls Try.prog 89 #[.string s] w fun e w' => e = .returned (.tuple #[.int .i64 (numF s.data.toList).1, .int .i64 (numF s.data.toList).2]) ∧ w = w' := by
 obtain ⟨L, hL⟩ : ∃ L, L = s.data.toList := ⟨_, rfl⟩
 rw [← hL]
 go_enter Try.func89, Try.ntmps89
 go_wp2
 replace hL := Lib.hid hL
 go_loopg [4, 5] 5 (fun g u i wr => ∃ (k : Nat) (v : Nat), k ≤ 5 ∧ g = 5 - k ∧ i = .int .i64 k ∧ u = .int .u64 v ∧ v < 128 ^ k ∧ dec 5 true L = ((dec (5 - k) (decide (k = 0)) (L.drop k)).map fun x => (v + 128 ^ k * x.1, x.2 + k)) ∧ wr = w)
 case atStart => exact ⟨0, 0, by omega, rfl, rfl, rfl, by simp, by simp, rfl⟩
 case round =>
  replace hL := hL.out
  obtain ⟨k, v, hk, rfl, rfl, rfl, hv, hD, rfl⟩ := hrel
  replace hD := Lib.hid hD
  replace hv := Lib.hid hv
  by_cases h4 : k < s.size
  ·by_cases h5 : k < 5
   ·have hc : s[k].toNat < 256 := s[k].toNat_lt
    replace hc := Lib.hid hc
    rcases (by omega : k = 0 ∨ k = 1 ∨ k = 2 ∨ k = 3 ∨ k = 4) with rfl | rfl | rfl | rfl | rfl
    ·obtain ⟨u, hu⟩ : ∃ u : Nat, u = v + s[0].toNat % 128 * 1 := ⟨_, rfl⟩
     have hE : bits BinOp.or IntKind.u64 (v : Int) (IntKind.u64.wrap (IntKind.u64.wrap (bits BinOp.and IntKind.u8 (s[0].toNat : Int) 127))) = (u : Int) := by rw [hu]; exact digit0 v _ hc.out (by simpa using hv.out)
     have hul : u < 34359738368 := by have h1 := hv.out; have h2 := hc.out; simp at h1; omega
     have hdrop : L.drop 0 = s[0] :: L.drop (0 + 1) := by rw [hL]; exact List.drop_eq_getElem_cons (by simpa using h4)
     replace hL := Lib.hid hL
     have hcc := hc.out
     by_cases h6 : s[0].toNat < 128
     ·have hd : (s[0].toNat < 128) := h6
      have fin : numF L = (zag u, 0 + 1) := by
       have hde : dec (5 - 0) (decide (0 = 0)) (s[0] :: L.drop (0 + 1)) = some (s[0].toNat, 1) := by
        simp [dec, h6]
       have hv' : v + 128 ^ 0 * s[0].toNat = u := by
        rw [hu, show s[0].toNat % 128 = s[0].toNat from by omega]
        simp only [show (128 : Nat) ^ 0 = 1 from rfl]
        omega
       rw [numF, hD.out, hdrop, hde]
       simp only [Option.map_some]
       rw [hv']
       rfl
      replace fin := Lib.hid fin
      replace hu := Lib.hid hu
      replace hdrop := Lib.hid hdrop
      have hq : (s[0].toNat : Int) < 128 := by omega
      clear hcc h6 hd
      by_cases hp : u % 2 = 1
      ·have hA : bits BinOp.and IntKind.u64 (u : Int) 1 = 1 := by rw [and_one_u64 _ (by omega) (by omega)]; omega
       have hz' : zag u = -((u : Int) / 2) - 1 := by unfold zag; rw [if_pos hp]; omega
       replace hz' := Lib.hid hz'
       replace hp := Lib.hid hp
       go_wp2
       go_ret2
       exact ⟨by rw [fin.out, hz'.out]; rfl, rfl⟩
      ·have hA : bits BinOp.and IntKind.u64 (u : Int) 1 = 0 := by rw [and_one_u64 _ (by omega) (by omega)]; omega
       have hz' : zag u = (u : Int) / 2 := by unfold zag; rw [if_neg hp]; omega
       replace hz' := Lib.hid hz'
       replace hp := Lib.hid hp
       go_wp2
       go_ret2
       exact ⟨by rw [fin.out, hz'.out]; rfl, rfl⟩
     ·have hnew : dec 5 true L = (dec (5 - (0 + 1)) (decide (0 + 1 = 0)) (L.drop (0 + 1))).map fun x => (u + 128 ^ (0 + 1) * x.1, x.2 + (0 + 1)) := by
       rw [hD.out, hdrop]
       exact decstep0 _ _ v u h6 hu
      have hvn : u < 128 ^ (0 + 1) := by
       have h1 : v < 1 := hv.out
       have h2 : (128 : Nat) ^ (0 + 1) = 128 := rfl
       rw [h2, hu]
       have h3 : s[0].toNat % 128 < 128 := by omega
       generalize s[0].toNat % 128 = q at h3
       omega
      replace hnew := Lib.hid hnew
      replace hvn := Lib.hid hvn
      replace hu := Lib.hid hu
      replace hdrop := Lib.hid hdrop
      have hq : 128 ≤ (s[0].toNat : Int) := by omega
      clear hcc h6
      go_wp2
      go_roundg (5 - (0 + 1))
      case measure => omega
      case rel => exact ⟨0 + 1, u, by omega, rfl, rfl, rfl, hvn.out, hnew.out, rfl⟩
    ·obtain ⟨u, hu⟩ : ∃ u : Nat, u = v + s[1].toNat % 128 * 128 := ⟨_, rfl⟩
     have hE : bits BinOp.or IntKind.u64 (v : Int) (IntKind.u64.wrap (IntKind.u64.wrap (bits BinOp.and IntKind.u8 (s[1].toNat : Int) 127) * 128)) = (u : Int) := by rw [hu]; exact digit1 v _ hc.out (by simpa using hv.out)
     have hul : u < 34359738368 := by have h1 := hv.out; have h2 := hc.out; simp at h1; omega
     have hdrop : L.drop 1 = s[1] :: L.drop (1 + 1) := by rw [hL]; exact List.drop_eq_getElem_cons (by simpa using h4)
     replace hL := Lib.hid hL
     have hcc := hc.out
     by_cases h6 : s[1].toNat < 128
     ·have hd : (s[1].toNat < 128) := h6
      by_cases h0 : s[1].toNat = 0
      ·have hz : ((s[1].toNat : Int) == 0) = true := by simp [h0]
       have fin : numF L = (0, 0) := by
        rw [numF, hD.out, hdrop]
        simp [dec, h0]
       replace fin := Lib.hid fin
       replace h0 := Lib.hid h0
       replace hu := Lib.hid hu
       replace hdrop := Lib.hid hdrop
       replace h6 := Lib.hid h6
       replace hd := Lib.hid hd
       clear hcc
       have hq : (s[1].toNat : Int) < 128 := by have := h6.out; omega
       go_wp2
       go_ret2
       exact ⟨by rw [fin.out]; rfl, rfl⟩
      have hz : ((s[1].toNat : Int) == 0) = false := by simpa using h0
      replace h0 := Lib.hid h0
      have fin : numF L = (zag u, 1 + 1) := by
       have hde : dec (5 - 1) (decide (1 = 0)) (s[1] :: L.drop (1 + 1)) = some (s[1].toNat, 1) := by
        simp [dec, h6, h0.out]
       have hv' : v + 128 ^ 1 * s[1].toNat = u := by
        rw [hu, show s[1].toNat % 128 = s[1].toNat from by omega]
        simp only [show (128 : Nat) ^ 1 = 128 from rfl]
        omega
       rw [numF, hD.out, hdrop, hde]
       simp only [Option.map_some]
       rw [hv']
       rfl
      replace fin := Lib.hid fin
      replace hu := Lib.hid hu
      replace hdrop := Lib.hid hdrop
      have hq : (s[1].toNat : Int) < 128 := by omega
      clear hcc h6 hd
      by_cases hp : u % 2 = 1
      ·have hA : bits BinOp.and IntKind.u64 (u : Int) 1 = 1 := by rw [and_one_u64 _ (by omega) (by omega)]; omega
       have hz' : zag u = -((u : Int) / 2) - 1 := by unfold zag; rw [if_pos hp]; omega
       replace hz' := Lib.hid hz'
       replace hp := Lib.hid hp
       go_wp2
       go_ret2
       exact ⟨by rw [fin.out, hz'.out]; rfl, rfl⟩
      ·have hA : bits BinOp.and IntKind.u64 (u : Int) 1 = 0 := by rw [and_one_u64 _ (by omega) (by omega)]; omega
       have hz' : zag u = (u : Int) / 2 := by unfold zag; rw [if_neg hp]; omega
       replace hz' := Lib.hid hz'
       replace hp := Lib.hid hp
       go_wp2
       go_ret2
       exact ⟨by rw [fin.out, hz'.out]; rfl, rfl⟩
     ·have hnew : dec 5 true L = (dec (5 - (1 + 1)) (decide (1 + 1 = 0)) (L.drop (1 + 1))).map fun x => (u + 128 ^ (1 + 1) * x.1, x.2 + (1 + 1)) := by
       rw [hD.out, hdrop]
       exact decstep1 _ _ v u h6 hu
      have hvn : u < 128 ^ (1 + 1) := by
       have h1 : v < 128 := hv.out
       have h2 : (128 : Nat) ^ (1 + 1) = 16384 := rfl
       rw [h2, hu]
       have h3 : s[1].toNat % 128 < 128 := by omega
       generalize s[1].toNat % 128 = q at h3
       omega
      replace hnew := Lib.hid hnew
      replace hvn := Lib.hid hvn
      replace hu := Lib.hid hu
      replace hdrop := Lib.hid hdrop
      have hq : 128 ≤ (s[1].toNat : Int) := by omega
      clear hcc h6
      go_wp2
      go_roundg (5 - (1 + 1))
      case measure => omega
      case rel => exact ⟨1 + 1, u, by omega, rfl, rfl, rfl, hvn.out, hnew.out, rfl⟩
    ·obtain ⟨u, hu⟩ : ∃ u : Nat, u = v + s[2].toNat % 128 * 16384 := ⟨_, rfl⟩
     have hE : bits BinOp.or IntKind.u64 (v : Int) (IntKind.u64.wrap (IntKind.u64.wrap (bits BinOp.and IntKind.u8 (s[2].toNat : Int) 127) * 16384)) = (u : Int) := by rw [hu]; exact digit2 v _ hc.out (by simpa using hv.out)
     have hul : u < 34359738368 := by have h1 := hv.out; have h2 := hc.out; simp at h1; omega
     have hdrop : L.drop 2 = s[2] :: L.drop (2 + 1) := by rw [hL]; exact List.drop_eq_getElem_cons (by simpa using h4)
     replace hL := Lib.hid hL
     have hcc := hc.out
     by_cases h6 : s[2].toNat < 128
     ·have hd : (s[2].toNat < 128) := h6
      by_cases h0 : s[2].toNat = 0
      ·have hz : ((s[2].toNat : Int) == 0) = true := by simp [h0]
       have fin : numF L = (0, 0) := by
        rw [numF, hD.out, hdrop]
        simp [dec, h0]
       replace fin := Lib.hid fin
       replace h0 := Lib.hid h0
       replace hu := Lib.hid hu
       replace hdrop := Lib.hid hdrop
       replace h6 := Lib.hid h6
       replace hd := Lib.hid hd
       clear hcc
       have hq : (s[2].toNat : Int) < 128 := by have := h6.out; omega
       go_wp2
       go_ret2
       exact ⟨by rw [fin.out]; rfl, rfl⟩
      have hz : ((s[2].toNat : Int) == 0) = false := by simpa using h0
      replace h0 := Lib.hid h0
      have fin : numF L = (zag u, 2 + 1) := by
       have hde : dec (5 - 2) (decide (2 = 0)) (s[2] :: L.drop (2 + 1)) = some (s[2].toNat, 1) := by
        simp [dec, h6, h0.out]
       have hv' : v + 128 ^ 2 * s[2].toNat = u := by
        rw [hu, show s[2].toNat % 128 = s[2].toNat from by omega]
        simp only [show (128 : Nat) ^ 2 = 16384 from rfl]
        omega
       rw [numF, hD.out, hdrop, hde]
       simp only [Option.map_some]
       rw [hv']
       rfl
      replace fin := Lib.hid fin
      replace hu := Lib.hid hu
      replace hdrop := Lib.hid hdrop
      have hq : (s[2].toNat : Int) < 128 := by omega
      clear hcc h6 hd
      by_cases hp : u % 2 = 1
      ·have hA : bits BinOp.and IntKind.u64 (u : Int) 1 = 1 := by rw [and_one_u64 _ (by omega) (by omega)]; omega
       have hz' : zag u = -((u : Int) / 2) - 1 := by unfold zag; rw [if_pos hp]; omega
       replace hz' := Lib.hid hz'
       replace hp := Lib.hid hp
       go_wp2
       go_ret2
       exact ⟨by rw [fin.out, hz'.out]; rfl, rfl⟩
      ·have hA : bits BinOp.and IntKind.u64 (u : Int) 1 = 0 := by rw [and_one_u64 _ (by omega) (by omega)]; omega
       have hz' : zag u = (u : Int) / 2 := by unfold zag; rw [if_neg hp]; omega
       replace hz' := Lib.hid hz'
       replace hp := Lib.hid hp
       go_wp2
       go_ret2
       exact ⟨by rw [fin.out, hz'.out]; rfl, rfl⟩
     ·have hnew : dec 5 true L = (dec (5 - (2 + 1)) (decide (2 + 1 = 0)) (L.drop (2 + 1))).map fun x => (u + 128 ^ (2 + 1) * x.1, x.2 + (2 + 1)) := by
       rw [hD.out, hdrop]
       exact decstep2 _ _ v u h6 hu
      have hvn : u < 128 ^ (2 + 1) := by
       have h1 : v < 16384 := hv.out
       have h2 : (128 : Nat) ^ (2 + 1) = 2097152 := rfl
       rw [h2, hu]
       have h3 : s[2].toNat % 128 < 128 := by omega
       generalize s[2].toNat % 128 = q at h3
       omega
      replace hnew := Lib.hid hnew
      replace hvn := Lib.hid hvn
      replace hu := Lib.hid hu
      replace hdrop := Lib.hid hdrop
      have hq : 128 ≤ (s[2].toNat : Int) := by omega
      clear hcc h6
      go_wp2
      go_roundg (5 - (2 + 1))
      case measure => omega
      case rel => exact ⟨2 + 1, u, by omega, rfl, rfl, rfl, hvn.out, hnew.out, rfl⟩
    ·obtain ⟨u, hu⟩ : ∃ u : Nat, u = v + s[3].toNat % 128 * 2097152 := ⟨_, rfl⟩
     have hE : bits BinOp.or IntKind.u64 (v : Int) (IntKind.u64.wrap (IntKind.u64.wrap (bits BinOp.and IntKind.u8 (s[3].toNat : Int) 127) * 2097152)) = (u : Int) := by rw [hu]; exact digit3 v _ hc.out (by simpa using hv.out)
     have hul : u < 34359738368 := by have h1 := hv.out; have h2 := hc.out; simp at h1; omega
     have hdrop : L.drop 3 = s[3] :: L.drop (3 + 1) := by rw [hL]; exact List.drop_eq_getElem_cons (by simpa using h4)
     replace hL := Lib.hid hL
     have hcc := hc.out
     by_cases h6 : s[3].toNat < 128
     ·have hd : (s[3].toNat < 128) := h6
      by_cases h0 : s[3].toNat = 0
      ·have hz : ((s[3].toNat : Int) == 0) = true := by simp [h0]
       have fin : numF L = (0, 0) := by
        rw [numF, hD.out, hdrop]
        simp [dec, h0]
       replace fin := Lib.hid fin
       replace h0 := Lib.hid h0
       replace hu := Lib.hid hu
       replace hdrop := Lib.hid hdrop
       replace h6 := Lib.hid h6
       replace hd := Lib.hid hd
       clear hcc
       have hq : (s[3].toNat : Int) < 128 := by have := h6.out; omega
       go_wp2
       go_ret2
       exact ⟨by rw [fin.out]; rfl, rfl⟩
      have hz : ((s[3].toNat : Int) == 0) = false := by simpa using h0
      replace h0 := Lib.hid h0
      have fin : numF L = (zag u, 3 + 1) := by
       have hde : dec (5 - 3) (decide (3 = 0)) (s[3] :: L.drop (3 + 1)) = some (s[3].toNat, 1) := by
        simp [dec, h6, h0.out]
       have hv' : v + 128 ^ 3 * s[3].toNat = u := by
        rw [hu, show s[3].toNat % 128 = s[3].toNat from by omega]
        simp only [show (128 : Nat) ^ 3 = 2097152 from rfl]
        omega
       rw [numF, hD.out, hdrop, hde]
       simp only [Option.map_some]
       rw [hv']
       rfl
      replace fin := Lib.hid fin
      replace hu := Lib.hid hu
      replace hdrop := Lib.hid hdrop
      have hq : (s[3].toNat : Int) < 128 := by omega
      clear hcc h6 hd
      by_cases hp : u % 2 = 1
      ·have hA : bits BinOp.and IntKind.u64 (u : Int) 1 = 1 := by rw [and_one_u64 _ (by omega) (by omega)]; omega
       have hz' : zag u = -((u : Int) / 2) - 1 := by unfold zag; rw [if_pos hp]; omega
       replace hz' := Lib.hid hz'
       replace hp := Lib.hid hp
       go_wp2
       go_ret2
       exact ⟨by rw [fin.out, hz'.out]; rfl, rfl⟩
      ·have hA : bits BinOp.and IntKind.u64 (u : Int) 1 = 0 := by rw [and_one_u64 _ (by omega) (by omega)]; omega
       have hz' : zag u = (u : Int) / 2 := by unfold zag; rw [if_neg hp]; omega
       replace hz' := Lib.hid hz'
       replace hp := Lib.hid hp
       go_wp2
       go_ret2
       exact ⟨by rw [fin.out, hz'.out]; rfl, rfl⟩
     ·have hnew : dec 5 true L = (dec (5 - (3 + 1)) (decide (3 + 1 = 0)) (L.drop (3 + 1))).map fun x => (u + 128 ^ (3 + 1) * x.1, x.2 + (3 + 1)) := by
       rw [hD.out, hdrop]
       exact decstep3 _ _ v u h6 hu
      have hvn : u < 128 ^ (3 + 1) := by
       have h1 : v < 2097152 := hv.out
       have h2 : (128 : Nat) ^ (3 + 1) = 268435456 := rfl
       rw [h2, hu]
       have h3 : s[3].toNat % 128 < 128 := by omega
       generalize s[3].toNat % 128 = q at h3
       omega
      replace hnew := Lib.hid hnew
      replace hvn := Lib.hid hvn
      replace hu := Lib.hid hu
      replace hdrop := Lib.hid hdrop
      have hq : 128 ≤ (s[3].toNat : Int) := by omega
      clear hcc h6
      go_wp2
      go_roundg (5 - (3 + 1))
      case measure => omega
      case rel => exact ⟨3 + 1, u, by omega, rfl, rfl, rfl, hvn.out, hnew.out, rfl⟩
    ·obtain ⟨u, hu⟩ : ∃ u : Nat, u = v + s[4].toNat % 128 * 268435456 := ⟨_, rfl⟩
     have hE : bits BinOp.or IntKind.u64 (v : Int) (IntKind.u64.wrap (IntKind.u64.wrap (bits BinOp.and IntKind.u8 (s[4].toNat : Int) 127) * 268435456)) = (u : Int) := by rw [hu]; exact digit4 v _ hc.out (by simpa using hv.out)
     have hul : u < 34359738368 := by have h1 := hv.out; have h2 := hc.out; simp at h1; omega
     have hdrop : L.drop 4 = s[4] :: L.drop (4 + 1) := by rw [hL]; exact List.drop_eq_getElem_cons (by simpa using h4)
     replace hL := Lib.hid hL
     have hcc := hc.out
     by_cases h6 : s[4].toNat < 128
     ·have hd : (s[4].toNat < 128) := h6
      by_cases h0 : s[4].toNat = 0
      ·have hz : ((s[4].toNat : Int) == 0) = true := by simp [h0]
       have fin : numF L = (0, 0) := by
        rw [numF, hD.out, hdrop]
        simp [dec, h0]
       replace fin := Lib.hid fin
       replace h0 := Lib.hid h0
       replace hu := Lib.hid hu
       replace hdrop := Lib.hid hdrop
       replace h6 := Lib.hid h6
       replace hd := Lib.hid hd
       clear hcc
       have hq : (s[4].toNat : Int) < 128 := by have := h6.out; omega
       go_wp2
       go_ret2
       exact ⟨by rw [fin.out]; rfl, rfl⟩
      have hz : ((s[4].toNat : Int) == 0) = false := by simpa using h0
      replace h0 := Lib.hid h0
      have fin : numF L = (zag u, 4 + 1) := by
       have hde : dec (5 - 4) (decide (4 = 0)) (s[4] :: L.drop (4 + 1)) = some (s[4].toNat, 1) := by
        simp [dec, h6, h0.out]
       have hv' : v + 128 ^ 4 * s[4].toNat = u := by
        rw [hu, show s[4].toNat % 128 = s[4].toNat from by omega]
        simp only [show (128 : Nat) ^ 4 = 268435456 from rfl]
        omega
       rw [numF, hD.out, hdrop, hde]
       simp only [Option.map_some]
       rw [hv']
       rfl
      replace fin := Lib.hid fin
      replace hu := Lib.hid hu
      replace hdrop := Lib.hid hdrop
      have hq : (s[4].toNat : Int) < 128 := by omega
      clear hcc h6 hd
      by_cases hp : u % 2 = 1
      ·have hA : bits BinOp.and IntKind.u64 (u : Int) 1 = 1 := by rw [and_one_u64 _ (by omega) (by omega)]; omega
       have hz' : zag u = -((u : Int) / 2) - 1 := by unfold zag; rw [if_pos hp]; omega
       replace hz' := Lib.hid hz'
       replace hp := Lib.hid hp
       go_wp2
       go_ret2
       exact ⟨by rw [fin.out, hz'.out]; rfl, rfl⟩
      ·have hA : bits BinOp.and IntKind.u64 (u : Int) 1 = 0 := by rw [and_one_u64 _ (by omega) (by omega)]; omega
       have hz' : zag u = (u : Int) / 2 := by unfold zag; rw [if_neg hp]; omega
       replace hz' := Lib.hid hz'
       replace hp := Lib.hid hp
       go_wp2
       go_ret2
       exact ⟨by rw [fin.out, hz'.out]; rfl, rfl⟩
     ·have hnew : dec 5 true L = (dec (5 - (4 + 1)) (decide (4 + 1 = 0)) (L.drop (4 + 1))).map fun x => (u + 128 ^ (4 + 1) * x.1, x.2 + (4 + 1)) := by
       rw [hD.out, hdrop]
       exact decstep4 _ _ v u h6 hu
      have hvn : u < 128 ^ (4 + 1) := by
       have h1 : v < 268435456 := hv.out
       have h2 : (128 : Nat) ^ (4 + 1) = 34359738368 := rfl
       rw [h2, hu]
       have h3 : s[4].toNat % 128 < 128 := by omega
       generalize s[4].toNat % 128 = q at h3
       omega
      replace hnew := Lib.hid hnew
      replace hvn := Lib.hid hvn
      replace hu := Lib.hid hu
      replace hdrop := Lib.hid hdrop
      have hq : 128 ≤ (s[4].toNat : Int) := by omega
      clear hcc h6
      go_wp2
      go_roundg (5 - (4 + 1))
      case measure => omega
      case rel => exact ⟨4 + 1, u, by omega, rfl, rfl, rfl, hvn.out, hnew.out, rfl⟩
   ·have hd5 : decide ((k : Int) < 5) = false := by simp; omega
    have hk5 : k = 5 := by omega
    have fin : numF L = (0, 0) := by rw [numF, hD.out, hk5]; rfl
    replace fin := Lib.hid fin
    replace hk5 := Lib.hid hk5
    replace hL := Lib.hid hL
    go_wp2
    go_ret2
    exact ⟨by rw [fin.out]; rfl, rfl⟩
  ·have hd4 : decide ((k : Int) < s.size) = false := by simp; omega
   have hdr : L.drop k = [] := List.drop_of_length_le (by rw [hL]; simp; omega)
   have fin : numF L = (0, 0) := by
    rw [numF, hD.out, hdr]
    cases h : 5 - k <;> simp [dec]
   replace fin := Lib.hid fin
   replace hdr := Lib.hid hdr
   replace hL := Lib.hid hL
   go_wp2
   go_ret2
   exact ⟨by rw [fin.out]; rfl, rfl⟩
end Go.Proofs.Ytggfdkkhlokmlab

namespace Go.Proofs.Ytggfdkkhlokmlab
open Go.RowKit

/-- The cells of an act. -/
def dc (x : Deed) : Array Value := #[.int .i64 x.kind, .int .i64 x.a, .int .i64 x.b, .int .i64 x.c, .int .i64 x.n]
theorem dc_size (x : Deed) : (dc x).size = 5 := rfl
theorem dc_0 (x : Deed) : (dc x)[0]? = some (.int .i64 x.kind) := rfl
theorem dc_1 (x : Deed) : (dc x)[1]? = some (.int .i64 x.a) := rfl
theorem dc_2 (x : Deed) : (dc x)[2]? = some (.int .i64 x.b) := rfl
theorem dc_3 (x : Deed) : (dc x)[3]? = some (.int .i64 x.c) := rfl
theorem dc_4 (x : Deed) : (dc x)[4]? = some (.int .i64 x.n) := rfl
theorem dc_one (x : Deed) : (dc x).all (·.oneCell') = true := by simp [dc, Value.oneCell']
theorem info44 : (Try.prog.info? 40).map (·.size) = some 5 := by kernel_rfl
def nth (x : Deed) : Nat → Int
 | 0 => x.kind
 | 1 => x.a
 | 2 => x.b
 | 3 => x.c
 | _ => x.n
theorem noted_iff (x : Deed) : noted x = true ↔ ∀ k, k < 5 → notedN (nth x k) = true := by
 constructor
 ·intro h k hk
  obtain ⟨h1, h2, h3, h4, h5⟩ := noted_of h
  rcases k with _ | _ | _ | _ | _ | k <;> first | exact h1 | exact h2 | exact h3 | exact h4 | exact h5 | omega
 ·intro h
  have h1 := h 0 (by omega); have h2 := h 1 (by omega); have h3 := h 2 (by omega); have h4 := h 3 (by omega); have h5 := h 4 (by omega)
  simp only [nth] at h1 h2 h3 h4 h5
  simp [noted, h1, h2, h3, h4, h5]
theorem index5 (x : Deed) (k : Nat) (hk : k < 5) (w : World) : (Instr.index 97 (.agg #[.int .i64 x.kind, .int .i64 x.a, .int .i64 x.b, .int .i64 x.c, .int .i64 x.n]) (.int .i64 (k : Int))).run Try.prog w = .ok (.int .i64 (nth x k)) w := by
 rcases k with _ | _ | _ | _ | _ | k
 ·kernel_rfl
 ·kernel_rfl
 ·kernel_rfl
 ·kernel_rfl
 ·kernel_rfl
 ·omega
attribute [local go_sem] dc_size dc_0 dc_1 dc_2 dc_3 dc_4 index5

set_option maxHeartbeats 1000000 in
theorem goodAct_any (x : Deed) (w : World) : Calls Try.prog 73 #[.agg (dc x)] w fun e w' => e = .returned (.bool (noted x)) ∧ Below w.heap.size w w' := by
 go_enter Try.func73, Try.ntmps73
 go_wp2
 go_loopg [16] 5 (fun g i wr => ∃ k : Nat, k ≤ 5 ∧ g = 5 - k ∧ i = .int .i64 k ∧ (∀ j, j < k → notedN (nth x j) = true) ∧ wr = w.alloc (.cells (dc x) 40))
 case atStart => exact ⟨0, by omega, rfl, rfl, fun j hj => absurd hj (by omega), rfl⟩
 case round =>
  obtain ⟨k, hk, rfl, rfl, hok, rfl⟩ := hrel
  replace hok := Lib.hid hok
  by_cases h4 : k < 5
  ·by_cases h5 : nth x k < -1073741824
   ·have fin : noted x = false := by
     cases h : noted x
     ·rfl
     ·have := of_decide_eq_true ((noted_iff x).1 h k h4); omega
    replace fin := Lib.hid fin
    go_wp2
    go_ret
    exact ⟨by rw [fin.out]; rfl, (Below.refl _ _).alloc (Nat.le_refl _) _⟩
   have hd5 : decide (nth x k < -1073741824) = false := by simpa using h5
   by_cases h6 : 1073741824 < nth x k
   ·have fin : noted x = false := by
     cases h : noted x
     ·rfl
     ·have := of_decide_eq_true ((noted_iff x).1 h k h4); omega
    replace fin := Lib.hid fin
    go_wp2
    go_ret
    exact ⟨by rw [fin.out]; rfl, (Below.refl _ _).alloc (Nat.le_refl _) _⟩
   have hd6 : decide (1073741824 < nth x k) = false := by simpa using h6
   have hn : Hid (notedN (nth x k) = true) := decide_eq_true ⟨by omega, by omega⟩
   go_wp2
   go_roundg (5 - (k + 1))
   case measure => omega
   case rel => exact ⟨k + 1, by omega, rfl, by go_num, fun j hj => if e : j = k then by rw [e]; exact hn.out else hok.out j (by omega), rfl⟩
  ·have hd : decide ((k : Int) < 5) = false := by simp; omega
   have fin : noted x = true := (noted_iff x).2 fun j hj => hok.out j (by omega)
   replace fin := Lib.hid fin
   go_wp2
   go_ret
   exact ⟨by rw [fin.out]; rfl, (Below.refl _ _).alloc (Nat.le_refl _) _⟩

theorem dc_nth (x : Deed) (k : Nat) (hk : k < 5) : (dc x)[k]? = some (.int .i64 (nth x k)) := by
 rcases k with _ | _ | _ | _ | _ | k <;> first | rfl | omega
attribute [local go_sem low] dc_nth

set_option maxHeartbeats 1000000 in
set_option maxRecDepth 100000 in
theorem isNoted_any (x : Deed) (w : World) : Calls Try.prog 75 #[.agg (dc x)] w fun e w' => e = .returned (.bool (noted x)) ∧ Below w.heap.size w w' := by
 go_enter Try.func75, Try.ntmps75
 go_wp2
 go_loopg [3, 18] 5 (fun g t i wr => ∃ k : Nat, k ≤ 5 ∧ g = 5 - k ∧ i = .int .i64 k ∧ (∃ b : Bool, t = .bool b ∧ (b = true ↔ ∀ j, j < k → notedN (nth x j) = true)) ∧ wr = (w.alloc (.cells (dc x) 40)).alloc (.cells (dc x) 3))
 case atStart => exact ⟨0, by omega, rfl, rfl, ⟨true, rfl, ⟨fun _ j hj => absurd hj (by omega), fun _ => rfl⟩⟩, rfl⟩
 case round =>
  obtain ⟨k, hk, rfl, rfl, ⟨b, rfl, hb⟩, rfl⟩ := hrel
  replace hb := Lib.hid hb
  by_cases h4 : k < 5
  ·cases b
   ·go_wp2_with (go_at_call 59; refine (within_any _ _ _ _).mono ?_; rintro e w' ⟨rfl, rfl⟩)
    go_roundg (5 - (k + 1))
    case measure => omega
    case rel => exact ⟨k + 1, by omega, rfl, by go_num, ⟨false, rfl, ⟨nofun, fun c => by have := hb.out.2 (fun j hj => c j (by omega)); cases this⟩⟩, rfl⟩
   ·go_wp2_with (go_at_call 59; refine (within_any _ _ _ _).mono ?_; rintro e w' ⟨rfl, rfl⟩)
    go_roundg (5 - (k + 1))
    case measure => omega
    case rel => exact ⟨k + 1, by omega, rfl, by go_num, ⟨_, rfl, ⟨fun e j hj => if ej : j = k then by rw [ej]; exact e else hb.out.1 (by trivial) j (by omega), fun c => c k (by omega)⟩⟩, rfl⟩
  ·have hd : decide ((k : Int) < 5) = false := by simp; omega
   have fin : noted x = b := by
    have h1 := hb.out
    have hk5 : k = 5 := by omega
    rw [hk5, ← noted_iff] at h1
    cases b
    ·cases h : noted x
     ·rfl
     ·exact absurd (h1.2 h) (by simp)
    ·exact h1.1 rfl
   replace fin := Lib.hid fin
   go_wp2
   go_ret
   exact ⟨by rw [fin.out]; rfl, ((Below.refl _ _).alloc (Nat.le_refl _) _).alloc (by simp) _⟩
end Go.Proofs.Ytggfdkkhlokmlab

namespace Go.Proofs.Ytggfdkkhlokmlab
open Go.RowKit

def d0 : Deed := ⟨0, 0, 0, 0, 0⟩
/-- What 'one' returns. -/
def oneF (L : List UInt8) : Deed × Int := match oneL L with | some (x, k) => (x, (k : Int)) | none => (d0, 0)
theorem oneF_none {L : List UInt8} (h : oneL L = none) : oneF L = (d0, 0) := by simp [oneF, h]
theorem oneF_some {L : List UInt8} {x : Deed} {k : Nat} (h : oneL L = some (x, k)) : oneF L = (x, (k : Int)) := by simp [oneF, h]
theorem results_act {fn : Func} {p u : Tmp} (hf : fn.results = #[.cell p 40, .tmp u]) (tmps : Array Value) (w : World) (g : Nat) (x : Deed)
  (hp : tmps.getD p undef = .pointer (some ⟨g, 0, none⟩)) (hg : w.heap[g]? = some (.cells (dc x) 40 (0, 0))) : (results fn tmps).run Try.prog w = .ok (.tuple #[.agg (dc x), tmps.getD u undef]) w := by
 rw [results_cell_tmp hf, hp]
 have h1 : (asAddr (.pointer (some ⟨g, 0, none⟩))).run Try.prog w = .ok ⟨g, 0, none⟩ w := rfl
 rw [h1, Result.andThen_ok, run_loadVar_row w g _ _ _ (0, 0) _ hg Try.underlying40 rfl info44]
 rfl

/-- The first k numbers. -/
def decs : Nat → List UInt8 → Option (List Int × List UInt8)
 | 0, s => some ([], s)
 | k + 1, s => (decs k s).bind fun x => (dec1 x.2).map fun y => (x.1 ++ [y.1], y.2)
theorem decs_len : ∀ (k : Nat) (s r : List UInt8) (ns : List Int), decs k s = some (ns, r) → ns.length = k
 | 0, s, r, ns, h => by simp [decs] at h; simp [h.1]
 | k + 1, s, r, ns, h => by
  simp only [decs, Option.bind_eq_some_iff, Option.map_eq_some_iff, Prod.mk.injEq] at h
  obtain ⟨⟨ms, q⟩, h1, ⟨n, q'⟩, _, rfl, _⟩ := h
  simp [decs_len k s q ms h1]
/-- The act of five numbers. -/
def deedOf (ns : List Int) : Deed := ⟨ns.getD 0 0, ns.getD 1 0, ns.getD 2 0, ns.getD 3 0, ns.getD 4 0⟩
theorem dec5_decs (s : List UInt8) : dec5 s = (decs 5 s).map fun x => (deedOf x.1, x.2) := by
 simp only [dec5, decs, Option.bind_some]
 cases h1 : dec1 s with
 | none => simp
 | some x1 =>
  simp only [Option.bind_some, Option.map_some]
  cases h2 : dec1 x1.2 with
  | none => simp
  | some x2 =>
   simp only [Option.bind_some, Option.map_some]
   cases h3 : dec1 x2.2 with
   | none => simp
   | some x3 =>
    simp only [Option.bind_some, Option.map_some]
    cases h4 : dec1 x3.2 with
    | none => simp
    | some x4 =>
     simp only [Option.bind_some, Option.map_some]
     cases h5 : dec1 x4.2 with
     | none => simp
     | some x5 => simp [deedOf]
theorem decs_dead (s : List UInt8) (k : Nat) (h : decs k s = none) : ∀ j, decs (k + j) s = none
 | 0 => h
 | j + 1 => by
  have := decs_dead s k h j
  show decs ((k + j) + 1) s = none
  simp [decs, this]
theorem numF_dec1 (r : List UInt8) : (dec1 r = none ∧ numF r = (0, 0)) ∨ ∃ (n : Int) (k : Nat), dec1 r = some (n, r.drop k) ∧ numF r = (n, (k : Int)) ∧ 0 < k ∧ k ≤ r.length := by
 cases h : dec 5 true r with
 | none => exact .inl ⟨by simp [dec1, h], by simp [numF, h]⟩
 | some x =>
  obtain ⟨u, k⟩ := x
  have := dec_enc 5 true r u k h
  exact .inr ⟨zag u, k, by simp [dec1, h], by simp [numF, h], this.2.2.2.2, this.2.2.2.1⟩

/-- An array of five ints of which the first are written. -/
def arr5 (ns : List Int) : Array Value := (ns.map (Value.int .i64) ++ List.replicate (5 - ns.length) (Value.int .i64 0)).toArray
theorem arr5_set (ns : List Int) (n : Int) (h : ns.length < 5) : (arr5 ns).setIfInBounds ns.length (.int .i64 n) = arr5 (ns ++ [n]) := by
 obtain ⟨m, hm⟩ : ∃ m, 5 - ns.length = m + 1 := ⟨5 - ns.length - 1, by omega⟩
 have hm2 : 5 - (ns ++ [n]).length = m := by simp; omega
 simp only [arr5, hm, hm2, List.replicate_succ]
 rw [List.setIfInBounds_toArray]
 congr 1
 rw [List.set_append_right _ _ (by simp)]
 simp
theorem arr5_get (ns : List Int) (h : ns.length = 5) (k : Nat) (hk : k < 5) : (arr5 ns)[k]? = some (.int .i64 (ns.getD k 0)) := by
 have : k < ns.length := by omega
 simp [arr5, h, List.getD, List.getElem?_eq_getElem this]
/-- oneL of a string that is long enough, in the walk's words. -/
theorem oneL_cons (c : UInt8) (t : List UInt8) (hlen : ¬ t.length < c.toNat + 2) : oneL (c :: t) =
  if t[c.toNat]? = some (UInt8.ofNat (ck (t.take c.toNat)).1) ∧ t[c.toNat + 1]? = some (UInt8.ofNat (ck (t.take c.toNat)).2) then
   (match dec5 (t.take c.toNat) with | some (x, []) => if noted x then some (x, c.toNat + 3) else none | _ => none) else none := by
 unfold oneL
 simp only
 rw [if_neg hlen]
 have e : (t.drop c.toNat).take 2 = [t[c.toNat]'(by omega), t[c.toNat + 1]'(by omega)] := by
  rw [List.drop_eq_getElem_cons (by omega), List.drop_eq_getElem_cons (by omega)]
  rfl
 rw [e, List.getElem?_eq_getElem (by omega), List.getElem?_eq_getElem (by omega)]
 by_cases h : t[c.toNat]'(by omega) = UInt8.ofNat (ck (t.take c.toNat)).1 ∧ t[c.toNat + 1]'(by omega) = UInt8.ofNat (ck (t.take c.toNat)).2
 ·rw [if_pos (by rw [h.1, h.2]), if_pos (by rw [h.1, h.2]; exact ⟨rfl, rfl⟩)]
  rfl
 ·rw [if_neg (fun e => h (by simpa using e)), if_neg (fun e => h (by simpa using e))]
end Go.Proofs.Ytggfdkkhlokmlab

namespace Go.Proofs.Ytggfdkkhlokmlab
open Go.RowKit
attribute [local go_sem] dc_size
theorem alloc_size (w : World) (o : Obj) : (w.alloc o).heap.size = w.heap.size + 1 := by show (w.heap.push o).size = _; simp
theorem arr5_at (ns : List Int) (h : ns.length < 5) : (arr5 ns)[ns.length]? = some (.int .i64 0) := by
 have : (List.replicate (5 - ns.length) (Value.int .i64 0))[0]? = some (.int .i64 0) := by
  rw [List.getElem?_replicate, if_pos (by omega)]
 simp only [arr5, List.getElem?_toArray]
 rw [List.getElem?_append_right (by simp)]
 simpa using this
def OnePost (L : List UInt8) (w : World) (e : Ending) (w' : World) : Prop := e = .returned (.tuple #[.agg (dc (oneF L).1), .int .i64 (oneF L).2]) ∧ Below w.heap.size w w'
set_option maxRecDepth 100000 in
set_option maxHeartbeats 1000000 in
theorem one_short (s : ByteArray) (w : World) (hs : s.size = 0) :
  Calls Try.prog 72 #[.string s] w (OnePost s.data.toList w) := by
 have hL : oneF s.data.toList = (d0, 0) := oneF_none (by
  have : s.data.toList = [] := List.length_eq_zero_iff.1 (by simpa using hs)
  rw [this]; rfl)
 have hz : ((s.size : Int) == 0) = true := by simp [hs]
 have hn : Hid (oneF s.data.toList = (d0, 0)) := hL
 clear hL
 replace hs := Lib.hid hs
 go_enter Try.func72, Try.ntmps72
 go_wp2
 refine bodyPost_ret (results_act rfl _ _ _ d0 rfl (hnew _ _)) rfl ?_
 exact ⟨by rw [hn.out]; rfl, (Below.refl _ _).alloc (Nat.le_refl _) _⟩
set_option maxRecDepth 100000 in
set_option maxHeartbeats 1000000 in
theorem one_long (s : ByteArray) (n : Nat) (w : World) (hr : s.size ≤ 140737488355328) (hs : 0 < s.size) (hcn : s[0].toNat = n) (hn : n < 256) (hl : n + 3 ≤ s.size) :
  Calls Try.prog 72 #[.string s] w (OnePost s.data.toList w) := by
 have b1 : n + 1 < s.size := by omega
 have b2 : n + 2 < s.size := by omega
 have hz : ((s.size : Int) == 0) = false := by rw [beq_eq_false_iff_ne]; omega
 have hd : decide ((s.size : Int) < (n : Int) + 3) = false := decide_eq_false (by omega)
 obtain ⟨L, hL⟩ : ∃ L, L = s.data.toList := ⟨_, rfl⟩
 obtain ⟨c, tl, hct⟩ : ∃ c tl, L = c :: tl := by
  cases L with
  | nil => have := congrArg List.length hL; simp at this; omega
  | cons c tl => exact ⟨c, tl, rfl⟩
 have hget : ∀ i (h : i < s.size), (c :: tl)[i]? = some s[i] := fun i h => by
  rw [← hct]
  rw [hL, List.getElem?_eq_getElem (by simpa using h)]; rfl
 have hc0 : c.toNat = n := by
  have h0 := hget 0 hs
  simp only [List.getElem?_cons_zero, Option.some.injEq] at h0
  rw [h0]; exact hcn
 have ht0 : tl[n]? = some (s[n + 1]'b1) := by have h := hget (n + 1) (by omega); rw [List.getElem?_cons_succ] at h; exact h
 have ht1 : tl[n + 1]? = some (s[n + 2]'b2) := by have h := hget (n + 2) (by omega); rw [List.getElem?_cons_succ] at h; exact h
 have hLlen : L.length = s.size := by rw [hL]; simp
 have htl : tl.length = s.size - 1 := by rw [← hLlen, hct]; simp
 obtain ⟨sb, hE2⟩ : ∃ sb, s.extract 1 (n + 1) = sb := ⟨_, rfl⟩
 have hE1 : s.extract 1 (n + 3 - 2) = sb := hE2
 have hsb : sb.data.toList = tl.take n := by rw [← hE2, Lib.extract_data, ← hL, hct]; rfl
 have hbs : sb.size = n := by
  have h1 : sb.size = sb.data.toList.length := by simp
  rw [h1, hsb, List.length_take]; omega
 have hbs' : sb.size ≤ 140737488355328 := by omega
 have hone : oneL L = if (s[n + 1]'b1) = UInt8.ofNat (ck sb.data.toList).1 ∧ (s[n + 2]'b2) = UInt8.ofNat (ck sb.data.toList).2 then
   (match dec5 sb.data.toList with | some (x, []) => if noted x then some (x, n + 3) else none | _ => none) else none := by
  rw [hct, oneL_cons c tl (by omega), hc0, ← hsb, ht0, ht1]
  simp only [Option.some.injEq]
  all_goals rfl
 have hck := ck_lt sb.data.toList
 rw [← hL]
 clear hget ht0 ht1 hc0 htl hct hLlen hL
 clear hsb
 clear tl c
 obtain ⟨X, hX⟩ : ∃ X, (ck sb.data.toList).1 = X := ⟨_, rfl⟩
 obtain ⟨Y, hY⟩ : ∃ Y, (ck sb.data.toList).2 = Y := ⟨_, rfl⟩
 have cS : ∀ w, Calls Try.prog 74 #[.string sb] w fun e w' => e = .returned (.tuple #[.int .u8 X, .int .u8 Y]) ∧ w = w' := by
  rw [← hX, ← hY]; exact fun w => sum8_any sb w hbs'
 rw [hX, hY] at hone hck
 replace hX := Lib.hid hX
 replace hY := Lib.hid hY
 replace cS := Lib.hid cS
 replace hbs := Lib.hid hbs
 have hone2 : Hid (¬ ((s[n + 1]'b1) = UInt8.ofNat X ∧ (s[n + 2]'b2) = UInt8.ofNat Y) → oneF L = (d0, 0)) := by
  show _ → _
  intro h; rw [if_neg h] at hone; exact oneF_none hone
 have hb1 : Hid ((X : Int) = ((s[n + 1]'b1).toNat : Int) → (s[n + 1]'b1) = UInt8.ofNat X) := by
  show _ → _
  intro h; rw [show X = (s[n + 1]'b1).toNat from by omega, UInt8.ofNat_toNat]
 have hb2 : Hid (∀ v : UInt8, v = UInt8.ofNat X → v.toNat = X) := by
  show ∀ _, _
  intro v h; rw [h]; exact ofNat_small (by omega)
 have hb3 : Hid (∀ v : UInt8, v = UInt8.ofNat Y → v.toNat = Y) := by
  show ∀ _, _
  intro v h; rw [h]; exact ofNat_small (by omega)
 replace hone := Lib.hid hone
 go_enter Try.func72, Try.ntmps72
 go_wp2_with fail
 refine (cS.out _).mono ?_
 rintro e w' ⟨rfl, rfl⟩
 go_wp2_with fail
 ·rename_i hxe _ hye
  have fin : oneF L = (d0, 0) := hone2.out fun h => by
   have h2 := hb3.out _ h.2
   rw [h2] at hye
   simp at hye
  refine bodyPost_ret (results_act rfl _ _ _ d0 rfl (hnew _ _)) rfl ?_
  exact ⟨by rw [fin]; rfl, (Below.refl _ _).alloc (Nat.le_refl _) _⟩
 ·rename_i hxe _ hye _ _
  have hpos : (s[n + 1]'b1) = UInt8.ofNat X ∧ (s[n + 2]'b2) = UInt8.ofNat Y := ⟨hb1.out hxe, by
   have h2 : (Y : Int) = ((s[n + 2]'b2).toNat : Int) := by simpa using hye
   rw [show Y = (s[n + 2]'b2).toNat from by omega, UInt8.ofNat_toNat]⟩
  replace hone := hone.out
  rw [if_pos hpos, dec5_decs] at hone
  replace hone := Lib.hid hone
  replace hye := Lib.hid hye
  replace hxe := Lib.hid hxe
  clear hpos hb1 hb2 hb3 hone2 hck hX hY cS
  have hB0 : w.heap.size + 1 ≠ w.heap.size := by omega
  obtain ⟨B, hB⟩ : ∃ B, B = sb.data.toList := ⟨_, rfl⟩
  rw [← hB] at hone
  replace hB := Lib.hid hB
  go_loopg [5, 54] 5 (fun g b i wr => ∃ (k : Nat) (ns : List Int) (sc : ByteArray), k ≤ 5 ∧ g = 5 - k ∧ b = .string sc ∧ i = .int .i64 k ∧ sc.size ≤ 140737488355328 ∧ decs k B = some (ns, sc.data.toList) ∧ wr.heap[w.heap.size]? = some (.cells (dc d0) 40 (0, 0)) ∧ wr.heap[w.heap.size + 1]? = some (.cells (arr5 ns) 97 (0, 0)) ∧ Below w.heap.size w wr)
  case atStart => exact ⟨0, [], sb, by omega, rfl, rfl, rfl, hbs', by rw [hB.out]; rfl, hold (hnew _ _) _, by rw [← alloc_size w (.cells (dc d0) 40)]; exact hnew _ _, ((Below.refl _ _).alloc (Nat.le_refl _) _).alloc (by rw [alloc_size]; omega) _⟩
  case round =>
   obtain ⟨k, ns, sc, hk, rfl, rfl, rfl, hsc, hD, hr0, hr1, hbl⟩ := hrel
   obtain ⟨wo, rfl⟩ : ∃ wo : World, wo = wr := ⟨_, rfl⟩
   replace hD := Lib.hid hD
   have hnl := decs_len _ _ _ _ hD.out
   replace hr0 := Lib.hid hr0
   by_cases h5 : k < 5
   ·obtain ⟨R, hR⟩ : ∃ R, R = sc.data.toList := ⟨_, rfl⟩
    have cN : ∀ w, Calls Try.prog 89 #[.string sc] w fun e w' => e = .returned (.tuple #[.int .i64 (numF R).1, .int .i64 (numF R).2]) ∧ w = w' := by
     rw [hR]; exact fun w => number_any sc w hsc
    rw [← hR] at hD
    rcases numF_dec1 R with ⟨h6, h7⟩ | ⟨v, q, h6, h7, hq0, hq1⟩
    ·rw [h7] at cN
     have fin : oneF L = (d0, 0) := by
      have h8 : decs (k + 1) B = none := by simp [decs, hD.out, h6]
      have h9 := decs_dead B (k + 1) h8 (5 - (k + 1))
      rw [show k + 1 + (5 - (k + 1)) = 5 from by omega] at h9
      have ho := hone.out
      rw [h9] at ho
      exact oneF_none ho
     replace fin := Lib.hid fin
     replace cN := Lib.hid cN
     clear h6 h7
     replace hR := Lib.hid hR
     go_wp2_with fail
     refine (cN.out _).mono ?_
     rintro e w' ⟨rfl, rfl⟩
     go_wp2_with (first | go_skip | (refine st_row 40 _ _ rfl rfl _ rfl _ rfl _ _ hr0.out info44 rfl (dc_one d0) ?_; intro w2 hx2 hgr hsz))
     refine bodyPost_ret (results_act rfl _ _ _ d0 rfl hx2) rfl ?_
     exact ⟨by rw [fin.out]; rfl, hbl.grown hgr hbl.size fun j hj => by cases hj; exact Nat.le_refl _⟩
    ·rw [h7] at cN
     obtain ⟨sd, hE⟩ : ∃ sd, sc.extract q sc.size = sd := ⟨_, rfl⟩
     have hRl : R.length = sc.size := by rw [hR]; simp
     have hsd : sd.data.toList = R.drop q := by rw [← hE, Lib.extract_data, ← hR, ← hRl]; exact List.take_of_length_le (by simp)
     have hds : sd.size ≤ 140737488355328 := by
      have h1 : sd.size = sd.data.toList.length := by simp
      rw [h1, hsd, List.length_drop]; omega
     have hqs : (q : Int) ≤ (sc.size : Int) := by omega
     have hqz : ((q : Int) == 0) = false := by rw [beq_eq_false_iff_ne]; omega
     have hD2 : decs (k + 1) B = some (ns ++ [v], sd.data.toList) := by simp [decs, hD.out, h6, hsd]
     have hset := arr5_set ns v (by omega)
     rw [hnl] at hset
     replace hset := Lib.hid hset
     replace hD2 := Lib.hid hD2
     replace hsd := Lib.hid hsd
     replace cN := Lib.hid cN
     replace hRl := Lib.hid hRl
     clear h6 h7 hD
     replace hR := Lib.hid hR
     have hcell : wo.cell? ⟨w.heap.size + 1, k, none⟩ = some (.int .i64 0) := by
      rw [cells_at hr1, ← hnl]; exact arr5_at ns (by omega)
     have hfz : wo.frozen? ⟨w.heap.size + 1, k, none⟩ = false := frozenAt hr1 _
     have hr1 := Lib.hid hr1
     have hnl := Lib.hid hnl
     go_wp2_with fail
     refine (cN.out _).mono ?_
     rintro e w' ⟨rfl, rfl⟩
     go_wp2_with fail
     go_region
     go_wp2
     go_roundg (5 - (k + 1))
     case measure => omega
     case rel => exact ⟨k + 1, ns ++ [v], sd, by omega, rfl, rfl, by go_num, hds, hD2.out, hsetOther hr0.out (by omega) _, by rw [← hset.out]; exact hsetSame hr1.out _, (hbl.setCell (by show _ ≤ w.heap.size + 1; omega) _).drew⟩
   ·have hd5 : decide ((k : Int) < 5) = false := decide_eq_false (by omega)
    obtain rfl : k = 5 := by omega
    have g0 := arr5_get ns hnl 0 (by omega)
    have g1 := arr5_get ns hnl 1 (by omega)
    have g2 := arr5_get ns hnl 2 (by omega)
    have g3 := arr5_get ns hnl 3 (by omega)
    have g4 := arr5_get ns hnl 4 (by omega)
    have hcell := cells_at hr1
    replace hnl := Lib.hid hnl
    have hlo : w.heap.size < wo.heap.size := hlt hr0.out
    replace hlo := Lib.hid hlo
    have ho := hone.out
    rw [hD.out] at ho
    simp only [Option.map_some] at ho
    by_cases hgt : (0 : Int) < sc.size
    ·have fin : oneF L = (d0, 0) := by
      refine oneF_none (ho.trans ?_)
      have hle : sc.size = sc.data.toList.length := by simp
      have : sc.data.toList ≠ [] := fun e => by
       rw [e] at hle
       simp only [List.length_nil] at hle
       omega
      cases hc : sc.data.toList with
      | nil => exact absurd hc this
      | cons a b => rfl
     replace fin := Lib.hid fin
     clear ho
     have hgn : 0 < sc.size := by omega
     go_wp2_with (first | go_skip | (refine st_row 40 _ _ rfl rfl _ rfl _ rfl _ _ (hold hr0.out _) info44 rfl (dc_one d0) ?_; intro w2 hx2 hgr hsz))
     refine bodyPost_ret (results_act rfl _ _ _ d0 rfl hx2) rfl ?_
     exact ⟨by rw [fin.out]; rfl, (hbl.alloc hbl.size _).grown hgr (hbl.alloc hbl.size _).size fun j hj => by cases hj; exact Nat.le_refl _⟩
    ·have hgz : decide ((0 : Int) < sc.size) = false := decide_eq_false hgt
     have hgn : decide (0 < sc.size) = false := decide_eq_false (by omega)
     have hsl : sc.data.toList = [] := List.length_eq_zero_iff.1 ((by simp : sc.data.toList.length = sc.size).trans (by omega))
     rw [hsl] at ho
     simp only at ho
     cases hG : noted (deedOf ns)
     ·have fin : oneF L = (d0, 0) := by
       rw [hG] at ho
       exact oneF_none ho
      have cG := goodAct_any (deedOf ns)
      rw [hG] at cG
      replace cG := Lib.hid cG
      replace fin := Lib.hid fin
      replace hG := Lib.hid hG
      replace hsl := Lib.hid hsl
      clear ho
      go_wp2_with (first | go_skip | (go_at_call 73; refine (cG.out _).mono ?_; rintro e w1 ⟨rfl, hbk⟩) | (refine ld_row 40 _ rfl rfl _ rfl _ _ _ _ (hnew _ _) Try.underlying40 rfl info44 ?_) | (refine st_row 40 _ _ rfl rfl _ rfl _ rfl _ _ (hkeep hbk (hold hr0.out _)) info44 rfl (dc_one d0) ?_; intro w2 hx2 hgr hsz))
      refine bodyPost_ret (results_act rfl _ _ _ d0 rfl hx2) rfl ?_
      have hb1 := (hbl.alloc hbl.size (.cells (dc (deedOf ns)) 40))
      have hb2 := hb1.trans (hbk.mono hb1.size)
      exact ⟨by rw [fin.out]; rfl, hb2.grown hgr hb2.size fun j hj => by cases hj; exact Nat.le_refl _⟩
     ·have fin : oneF L = (deedOf ns, ((n + 3 : Nat) : Int)) := by
       rw [hG] at ho
       exact oneF_some ho
      have cG := goodAct_any (deedOf ns)
      rw [hG] at cG
      replace cG := Lib.hid cG
      replace fin := Lib.hid fin
      replace hG := Lib.hid hG
      replace hsl := Lib.hid hsl
      clear ho
      go_wp2_with (first | go_skip | (go_at_call 73; refine (cG.out _).mono ?_; rintro e w1 ⟨rfl, hbk⟩) | (refine ld_row 40 _ rfl rfl _ rfl _ _ _ _ (hnew _ _) Try.underlying40 rfl info44 ?_) | (refine ld_row 40 _ rfl rfl _ rfl _ _ _ _ (hkeep hbk (hnew _ _)) Try.underlying40 rfl info44 ?_) | (refine st_row 40 _ _ rfl rfl _ rfl _ rfl _ _ (hkeep hbk (hold hr0.out _)) info44 rfl (dc_one (deedOf ns)) ?_; intro w2 hx2 hgr hsz))
      refine bodyPost_ret (results_act rfl _ _ _ (deedOf ns) rfl hx2) rfl ?_
      have hb1 := (hbl.alloc hbl.size (.cells (dc (deedOf ns)) 40))
      have hb2 := hb1.trans (hbk.mono hb1.size)
      exact ⟨by rw [fin.out]; rfl, hb2.grown hgr hb2.size fun j hj => by cases hj; exact Nat.le_refl _⟩
 ·rename_i hxe
  have fin : oneF L = (d0, 0) := hone2.out fun h => by
   have h2 := hb2.out _ h.1
   omega
  refine bodyPost_ret (results_act rfl _ _ _ d0 rfl (hnew _ _)) rfl ?_
  exact ⟨by rw [fin]; rfl, (Below.refl _ _).alloc (Nat.le_refl _) _⟩
end Go.Proofs.Ytggfdkkhlokmlab

namespace Go.Proofs.Ytggfdkkhlokmlab
open Go.RowKit
attribute [local go_sem] dc_size
set_option maxRecDepth 100000 in
set_option maxHeartbeats 1000000 in
theorem one_mid (s : ByteArray) (n : Nat) (w : World) (hs : 0 < s.size) (hcn : s[0].toNat = n) (h256 : n < 256) (hl : s.size < n + 3) :
  Calls Try.prog 72 #[.string s] w (OnePost s.data.toList w) := by
 have hz : ((s.size : Int) == 0) = false := by rw [beq_eq_false_iff_ne]; omega
 have hd : decide ((s.size : Int) < (n : Int) + 3) = true := decide_eq_true (by omega)
 obtain ⟨L, hL⟩ : ∃ L, L = s.data.toList := ⟨_, rfl⟩
 have hn : oneF L = (d0, 0) := oneF_none (by
  cases hc : L with
  | nil => rfl
  | cons c tl =>
   have h0 : L[0]? = some s[0] := by rw [hL, List.getElem?_eq_getElem (by simpa using hs)]; rfl
   rw [hc] at h0
   simp only [List.getElem?_cons_zero, Option.some.injEq] at h0
   have hlen : L.length = s.size := by rw [hL]; simp
   rw [hc] at hlen
   simp only [List.length_cons] at hlen
   unfold oneL
   simp only
   rw [if_pos (by rw [h0, hcn]; omega)])
 rw [← hL]
 replace hL := Lib.hid hL
 replace hn := Lib.hid hn
 go_enter Try.func72, Try.ntmps72
 go_wp2
 refine bodyPost_ret (results_act rfl _ _ _ d0 rfl (hnew _ _)) rfl ?_
 exact ⟨by rw [hn.out]; rfl, (Below.refl _ _).alloc (Nat.le_refl _) _⟩
theorem one_any (s : ByteArray) (w : World) (hr : s.size ≤ 140737488355328) : Calls Try.prog 72 #[.string s] w (OnePost s.data.toList w) := by
 by_cases h0 : s.size = 0
 ·exact one_short s w h0
 ·have hs : 0 < s.size := by omega
  by_cases hl : s[0].toNat + 3 ≤ s.size
  ·exact one_long s _ w hr hs rfl s[0].toNat_lt hl
  ·exact one_mid s _ w hs rfl s[0].toNat_lt (by omega)
end Go.Proofs.Ytggfdkkhlokmlab

namespace Go.Proofs.Ytggfdkkhlokmlab
open Go.RowKit

/-- The slice s lies in memory as the acts l. -/
structure ActsAt (w : World) (a : Option Addr) (cap : Nat) (l : List Deed) : Prop where
 le : l.length ≤ cap
 capm : cap ≤ maxLen
 room : l.length * 40 ≤ 140737488355328
 nil0 : a = none → cap = 0
 row : 0 < l.length → ∃ b off, a = some ⟨b, off, none⟩ ∧ b < w.heap.size ∧ ∀ i p, l[i]? = some p → ∀ j v, (dc p)[j]? = some v → w.cell? ⟨b, off + (i * 5 + j), none⟩ = some v
theorem ActsAt.below {w w' : World} {a : Option Addr} {cap : Nat} {l : List Deed} (h : ActsAt w a cap l) (hb : Below w.heap.size w w') : ActsAt w' a cap l :=
 ⟨h.le, h.capm, h.room, h.nil0, fun hl => let ⟨b, off, ha, hbl, hc⟩ := h.row hl; ⟨b, off, ha, Nat.lt_of_lt_of_le hbl hb.size, fun i p hp j v hv => (hb.cell (p := ⟨b, _, none⟩) hbl).trans (hc i p hp j v hv)⟩⟩
theorem ActsAt.alloc {w : World} {a : Option Addr} {cap : Nat} {l : List Deed} (h : ActsAt w a cap l) (o : Obj) : ActsAt (w.alloc o) a cap l := h.below ((Below.refl _ _).alloc (Nat.le_refl _) _)

/-- The cells of acts, one behind the other. -/
def flatD (l : List Deed) : List Value := l.flatMap fun p => (dc p).toList
theorem flatD_length : ∀ l : List Deed, (flatD l).length = l.length * 5
 | [] => rfl
 | p :: l => by
  have := flatD_length l
  simp only [flatD, List.flatMap_cons, List.length_append, List.length_cons] at this ⊢
  rw [this]
  have h5 : (dc p).toList.length = 5 := rfl
  omega
theorem flatD_get : ∀ (l : List Deed) (i : Nat) (p : Deed), l[i]? = some p → ∀ (j : Nat) (v : Value), (dc p)[j]? = some v → (flatD l)[i * 5 + j]? = some v
 | [], i, p, h, _, _, _ => by simp at h
 | q :: l, 0, p, h, j, v, hv => by
  simp at h
  subst h
  have hj : j < 5 := (Array.getElem?_eq_some_iff.1 hv).1
  simp only [flatD, List.flatMap_cons, Nat.zero_mul, Nat.zero_add]
  rw [List.getElem?_append_left (by exact hj)]
  simpa using hv
 | q :: l, i + 1, p, h, j, v, hv => by
  have ih := flatD_get l i p (by simpa using h) j v hv
  simp only [flatD, List.flatMap_cons]
  rw [List.getElem?_append_right (by show 5 ≤ _; omega)]
  have e : (i + 1) * 5 + j - (dc q).toList.length = i * 5 + j := by show (i + 1) * 5 + j - 5 = _; omega
  rw [e]
  exact ih
theorem flatD_append (l k : List Deed) : flatD (l ++ k) = flatD l ++ flatD k := by simp [flatD]
theorem flatD_one (l : List Deed) : ∀ u ∈ flatD l, u.oneCell' = true := by
 intro u hu
 obtain ⟨p, _, hp⟩ := List.mem_flatMap.1 hu
 simp only [dc, List.mem_cons, List.not_mem_nil, or_false] at hp
 rcases hp with rfl | rfl | rfl | rfl | rfl <;> rfl
theorem ActsAt.cells {w : World} {b off cap : Nat} {l : List Deed} (h : ActsAt w (some ⟨b, off, none⟩) cap l) : ∀ j u, (flatD l)[j]? = some u → w.cell? ((⟨b, off, none⟩ : Addr).add j) = some u := by
 intro j u hu
 have hj : j < (flatD l).length := (List.getElem?_eq_some_iff.1 hu).1
 rw [flatD_length] at hj
 have h0 : 0 < l.length := by omega
 obtain ⟨b', off', e, _, hc⟩ := h.row h0
 cases e
 have hadd : (⟨b, off, none⟩ : Addr).add j = ⟨b, off + j, none⟩ := by unfold Addr.add; split <;> simp_all
 have hi : j / 5 < l.length := by omega
 have hjj : j = j / 5 * 5 + j % 5 := by omega
 have hr : j % 5 < 5 := by omega
 have hv : (dc l[j / 5])[j % 5]? = some ((dc l[j / 5])[j % 5]'hr) := Array.getElem?_eq_getElem hr
 have := flatD_get l (j / 5) _ (List.getElem?_eq_getElem hi) (j % 5) _ hv
 rw [← hjj, hu] at this
 cases this
 rw [hadd]
 have hc' := hc (j / 5) _ (List.getElem?_eq_getElem hi) (j % 5) _ hv
 rw [← hjj] at hc'
 exact hc'
/-- Acts in a row of the call's own. -/
def OwnActs (w : World) (base : Nat) (v : Value) (l : List Deed) : Prop := w.ownsRow base 40 5 v l.length (flatD l) ∧ l.length * 40 ≤ 140737488355328
theorem OwnActs.at_ {w : World} {base : Nat} {v : Value} {l : List Deed} (h : OwnActs w base v l) : ∃ a cap, v = .slice a l.length cap ∧ ActsAt w a cap l ∧ (∀ b off s, a = some ⟨b, off, s⟩ → base ≤ b) := by
 obtain ⟨⟨hlen, hv⟩, hroom⟩ := h
 rcases hv with ⟨rfl, h0⟩ | ⟨g, cap, cur, rfl, hb, hg, hn, hc, hsz, htake⟩
 ·refine ⟨none, 0, by rw [h0], ⟨by omega, by simp [maxLen], hroom, fun _ => rfl, fun h => absurd h (by omega)⟩, by simp⟩
 ·refine ⟨some ⟨g, 0, none⟩, cap, rfl, ⟨hn, hc, hroom, by simp, fun _ => ⟨g, 0, rfl, hlt hg, fun i p hp j v hv => ?_⟩⟩, fun b off s e => by cases e; exact hb⟩
  have h1 := flatD_get l i p hp j v hv
  rw [← htake] at h1
  have hlt : i * 5 + j < l.length * 5 := by
   have hi := (List.getElem?_eq_some_iff.1 hp).1
   have hj : j < 5 := (Array.getElem?_eq_some_iff.1 hv).1
   omega
  rw [List.getElem?_take_of_lt hlt] at h1
  rw [Nat.zero_add, cells_at hg]
  simpa using h1
theorem OwnActs.below {w w' : World} {base : Nat} {v : Value} {l : List Deed} (h : OwnActs w base v l) (hb : Below w.heap.size w w') : OwnActs w' base v l := by
 obtain ⟨⟨hlen, hv⟩, hroom⟩ := h
 refine ⟨⟨hlen, ?_⟩, hroom⟩
 rcases hv with h0 | ⟨g, cap, cur, rfl, hb', hg, hrest⟩
 ·exact .inl h0
 ·exact .inr ⟨g, cap, cur, rfl, hb', hkeep hb hg, hrest⟩
theorem OwnActs.one {w : World} {base : Nat} {v : Value} {l : List Deed} (h : OwnActs w base v l) : v.oneCell' = true := by
 obtain ⟨a, cap, rfl, _⟩ := h.at_
 rfl
theorem OwnActs.mono {w : World} {base base' : Nat} {v : Value} {l : List Deed} (h : OwnActs w base v l) (hb : base' ≤ base) : OwnActs w base' v l := by
 obtain ⟨⟨hlen, hv⟩, hroom⟩ := h
 refine ⟨⟨hlen, ?_⟩, hroom⟩
 rcases hv with h0 | ⟨g, cap, cur, rfl, hb', hrest⟩
 ·exact .inl h0
 ·exact .inr ⟨g, cap, cur, rfl, by omega, hrest⟩

theorem OwnActs.keep {w w' : World} {base : Nat} {v : Value} {l : List Deed} (h : OwnActs w base v l) (hb : ∀ g, base ≤ g → w'.heap[g]? = w.heap[g]?) : OwnActs w' base v l := by
 obtain ⟨⟨hlen, hv⟩, hroom⟩ := h
 refine ⟨⟨hlen, ?_⟩, hroom⟩
 rcases hv with h0 | ⟨g, cap, cur, rfl, hb', hg, hrest⟩
 ·exact .inl h0
 ·exact .inr ⟨g, cap, cur, rfl, hb', (hb g hb').trans hg, hrest⟩
theorem info44z : ∃ (i : TypeInfo) (z : Value), Try.prog.info? 40 = some i ∧ i.zero = some z ∧ i.size = 5 ∧ i.bytes = 40 ∧ z.cells.size = 5 := by
 have h : (Try.prog.info? 40).map (fun i => (i.zero.map (·.cells.size), i.size, i.bytes)) = some (some 5, 5, 40) := by kernel_rfl
 cases hq : Try.prog.info? 40 with
 | none => simp [hq] at h
 | some i =>
  simp only [hq, Option.map_some, Option.some.injEq, Prod.mk.injEq] at h
  obtain ⟨h1, h2, h3⟩ := h
  cases hz : i.zero with
  | none => simp [hz] at h1
  | some z => exact ⟨i, z, rfl, hz, h2, h3, by simpa [hz] using h1⟩
end Go.Proofs.Ytggfdkkhlokmlab

namespace Go.Proofs.Ytggfdkkhlokmlab
open Go.RowKit
attribute [local go_sem] dc_size
theorem frame8 {s : List UInt8} {x : Deed} {k : Nat} (h : oneL s = some (x, k)) : 8 ≤ k := by
 obtain ⟨⟨h1, _⟩, h2, _⟩ := oneL_sound h
 have := body_len h1
 rw [h2, frame_len]; omega
def ReadPost (L : List UInt8) (w : World) (e : Ending) (w' : World) : Prop := (∃ v, e = .returned (.tuple #[v, .int .i64 ((rd L).2 : Nat)]) ∧ OwnActs w' w.heap.size v (rd L).1) ∧ Below w.heap.size w w'
set_option maxRecDepth 100000 in
set_option maxHeartbeats 4000000 in
theorem read_any (s : ByteArray) (w : World) (hs : s.size ≤ 16777216) : Calls Try.prog 53 #[.string s] w (ReadPost s.data.toList w) := by
 obtain ⟨i0, z, hi, hz0, hz1, hz2, hz3⟩ := info44z
 obtain ⟨L, hL⟩ : ∃ L, L = s.data.toList := ⟨_, rfl⟩
 rw [← hL]
 have hLl : L.length = s.size := by rw [hL]; simp
 replace hL := Lib.hid hL
 go_enter Try.func53, Try.ntmps53
 go_wp2
 go_loopg [4, 5] s.size (fun g a b wr => ∃ (n : Nat) (xs : List Deed), n ≤ s.size ∧ g = s.size - n ∧ b = .int .i64 n ∧ OwnActs wr w.heap.size a xs ∧ xs.length * 8 ≤ n ∧ rd L = (xs ++ (rd (L.drop n)).1, n + (rd (L.drop n)).2) ∧ Below w.heap.size w wr)
 case atStart => exact ⟨0, [], by omega, rfl, rfl, ⟨⟨rfl, .inl ⟨rfl, rfl⟩⟩, by simp⟩, by simp, by simp, Below.refl _ _⟩
 case round =>
  obtain ⟨n, xs, hn, rfl, rfl, hown, hxl, hD, hbl⟩ := hrel
  obtain ⟨wo, rfl⟩ : ∃ wo : World, wo = wr := ⟨_, rfl⟩
  obtain ⟨sd, hE⟩ : ∃ sd, s.extract n s.size = sd := ⟨_, rfl⟩
  obtain ⟨R, hR⟩ : ∃ R, R = L.drop n := ⟨_, rfl⟩
  have hsd : sd.data.toList = R := by rw [hR, ← hE, Lib.extract_data, ← hL.out, ← hLl]; exact List.take_of_length_le (by simp)
  have hRl : R.length = s.size - n := by rw [hR, List.length_drop, hLl]
  have hds : sd.size ≤ 140737488355328 := by
   have h1 : sd.size = sd.data.toList.length := by simp
   rw [h1, hsd, hRl]; omega
  have c1 : ∀ w, Calls Try.prog 72 #[.string sd] w fun e w' => e = .returned (.tuple #[.agg (dc (oneF R).1), .int .i64 (oneF R).2]) ∧ Below w.heap.size w w' := by
   rw [← hsd]; exact fun w => one_any sd w hds
  rw [← hR] at hD
  have hns : (n : Int) ≤ (s.size : Int) := by omega
  cases h1 : oneL R with
  | none =>
   rw [rd_none h1] at hD
   rw [oneF_none h1] at c1
   replace c1 := Lib.hid c1
   replace hD := Lib.hid hD
   replace hsd := Lib.hid hsd
   replace hR := Lib.hid hR
   replace hRl := Lib.hid hRl
   replace hLl := Lib.hid hLl
   replace h1 := Lib.hid h1
   go_wp2_with fail
   refine (c1.out _).mono ?_
   rintro e w1 ⟨rfl, hb1⟩
   go_wp2_with (first | go_skip | (refine st_new 40 _ _ rfl w1 40 _ rfl rfl rfl _ rfl info44 rfl (dc_one d0) ?_))
   go_ret2
   have hbb := hbl.trans ((hb1.alloc hb1.size (.cells (dc d0) 40)).mono hbl.size)
   refine ⟨⟨u4, ?_, ?_⟩, hbb⟩
   ·rw [hD.out]; simp
   ·rw [hD.out, List.append_nil]; exact hown.below (hb1.alloc hb1.size _)
  | some q =>
   obtain ⟨x, k⟩ := q
   rw [rd_some h1] at hD
   rw [oneF_some h1] at c1
   have hk := oneL_pos h1
   have h8 := frame8 h1
   have hnk : (n : Int) + k ≤ s.size := by omega
   replace c1 := Lib.hid c1
   replace hD := Lib.hid hD
   replace hsd := Lib.hid hsd
   replace hR := Lib.hid hR
   replace hRl := Lib.hid hRl
   replace hLl := Lib.hid hLl
   replace h1 := Lib.hid h1
   have hkz : ((k : Int) == 0) = false := by rw [beq_eq_false_iff_ne]; omega
   go_wp2_with fail
   refine (c1.out _).mono ?_
   rintro e w1 ⟨rfl, hb1⟩
   have hown1 : Hid (OwnActs ((w1.alloc (.cells (dc x) 40)).alloc (.cells (dc x) 40)) w.heap.size u4 xs) := (hown.below (hb1.alloc hb1.size _)).below ((Below.refl _ _).alloc (Nat.le_refl _) _)
   go_wp2_with (first | go_skip | (at_builtin; refine wpList_append_own _ rfl _ _ 35 rfl w.heap.size 40 i0 z 5 40 Try.underlying35 hi hz0 hz1 hz2 hz3 (by decide) u4 xs.length (flatD xs) rfl hown1.out.1 ⟨w1.heap.size + 1, 0, none⟩ 1 1 (dc x).toList rfl rfl ?c1 ?c2 ?c3 ?c4 ?c5 ?_) | (refine st_new 40 _ _ rfl w1 40 _ rfl rfl rfl _ rfl info44 rfl (dc_one x) ?_) | (refine ld_row 40 _ rfl rfl _ rfl _ _ _ _ (hnew w1 (.cells (dc x) 40)) Try.underlying40 rfl info44 ?_))
   case c1 =>
    suffices h : ∀ C, C = dc x → ∀ (j : Nat) (u : Value), (dc x).toList[j]? = some u → ((w1.alloc (.cells (dc x) 40)).alloc (.cells C 40)).cell? ((⟨w1.heap.size + 1, 0, none⟩ : Addr).add j) = some u from h _ rfl
    intro C hC
    subst hC
    have hh : ((w1.alloc (.cells (dc x) 40)).alloc (.cells (dc x) 40)).heap[w1.heap.size + 1]? = some (.cells (dc x) 40 (0, 0)) := by
     rw [← alloc_size w1 (.cells (dc x) 40)]; exact hnew _ _
    intro j u hu
    have hadd : (⟨w1.heap.size + 1, 0, none⟩ : Addr).add j = ⟨w1.heap.size + 1, 0 + j, none⟩ := by unfold Addr.add; split <;> simp_all
    rw [hadd, Nat.zero_add]
    exact (cells_at hh j).trans (by simpa using hu)
   case c2 => intro u hu; exact Array.all_eq_true_iff_forall_mem.1 (dc_one x) u (by simpa using hu)
   case c3 => simp only [maxLen]; omega
   case c4 => omega
   case c5 =>
    have h1 := hbl.size
    have h2 := hb1.size
    rw [alloc_size, alloc_size]
    omega
   intro v' w2 hown2 hgr _
   have hfl : flatD (xs ++ [x]) = flatD xs ++ (dc x).toList := by rw [flatD_append]; simp [flatD]
   have hO2 : OwnActs w2 w.heap.size v' (xs ++ [x]) := ⟨by rw [hfl]; simpa using hown2, by simp; omega⟩
   have hbl2 : Below w.heap.size w w2 := by
    suffices h : ∀ C, World.grownBy ((w1.alloc (.cells (dc x) 40)).alloc (.cells C 40)) w2 (Value.ownBlock u4) → C = dc x → Below w.heap.size w w2 from h _ hgr rfl
    intro C hgr hC
    subst hC
    have h3 : Below w.heap.size w ((w1.alloc (.cells (dc x) 40)).alloc (.cells (dc x) 40)) := by
     have h4 := (hb1.alloc hb1.size (.cells (dc x) 40))
     exact hbl.trans ((h4.alloc h4.size (.cells (dc x) 40)).mono hbl.size)
    refine h3.grown hgr h3.size fun g hg => ?_
    rcases hown.1.2 with ⟨rfl, _⟩ | ⟨g', cap, cur, rfl, hb', _⟩
    ·simp [Value.ownBlock] at hg
    ·simp [Value.ownBlock] at hg; omega
   replace hown2 := Lib.hid hown2
   replace hfl := Lib.hid hfl
   clear hgr hown1 hown
   go_wp2
   go_roundg (s.size - (n + k))
   case measure => omega
   case rel => exact ⟨n + k, xs ++ [x], by omega, rfl, by go_num, hO2, by simp; omega, by rw [hD.out, ← List.drop_drop, ← hR.out]; simp [Nat.add_assoc], hbl2⟩
end Go.Proofs.Ytggfdkkhlokmlab


