/- book.number: one number at the front of a string (written by gen_num.py). -/
import Derived.Test.YtggfdkkhlokmlaaBook1
namespace Go.Proofs.Ytggfdkkhlokmlaa
open Go.RowKit

theorem mask127 (c : Nat) (hc : c < 256) : bits BinOp.and IntKind.u8 (c : Int) 127 = ((c % 128 : Nat) : Int) := by
  have h := bits_mask .u8 8 (by decide) wraps_u8 7 (by decide) (c : Int) (by omega) (by omega)
  have e : ((2 : Int) ^ 7 - 1) = 127 := rfl
  rw [e] at h
  rw [h]
  rfl
theorem digit0 (v c : Nat) (hc : c < 256) (hv : v < 1) : bits BinOp.or IntKind.u64 (v : Int) (IntKind.u64.wrap (IntKind.u64.wrap (bits BinOp.and IntKind.u8 (c : Int) 127))) = ((v + c % 128 * 1 : Nat) : Int) := by
  rw [mask127 c hc, IntWalk.u64_in ((c % 128 : Nat) : Int) (by omega), IntWalk.u64_in _ (by omega), u64_or_nat _ _ (by omega) (by omega)]
  obtain rfl : v = 0 := by omega
  simp
theorem digit1 (v c : Nat) (hc : c < 256) (hv : v < 128) : bits BinOp.or IntKind.u64 (v : Int) (IntKind.u64.wrap (IntKind.u64.wrap (bits BinOp.and IntKind.u8 (c : Int) 127) * 128)) = ((v + c % 128 * 128 : Nat) : Int) := by
  rw [mask127 c hc, IntWalk.u64_in ((c % 128 : Nat) : Int) (by omega), IntWalk.u64_in _ (by omega)]
  rw [show ((c % 128 : Nat) : Int) * 128 = ((2 ^ 7 * (c % 128) : Nat) : Int) from by omega, u64_or_nat _ _ (by omega) (by omega), Nat.or_comm, ← Nat.two_pow_add_eq_or_of_lt hv]
  omega
theorem digit2 (v c : Nat) (hc : c < 256) (hv : v < 16384) : bits BinOp.or IntKind.u64 (v : Int) (IntKind.u64.wrap (IntKind.u64.wrap (bits BinOp.and IntKind.u8 (c : Int) 127) * 16384)) = ((v + c % 128 * 16384 : Nat) : Int) := by
  rw [mask127 c hc, IntWalk.u64_in ((c % 128 : Nat) : Int) (by omega), IntWalk.u64_in _ (by omega)]
  rw [show ((c % 128 : Nat) : Int) * 16384 = ((2 ^ 14 * (c % 128) : Nat) : Int) from by omega, u64_or_nat _ _ (by omega) (by omega), Nat.or_comm, ← Nat.two_pow_add_eq_or_of_lt hv]
  omega
theorem digit3 (v c : Nat) (hc : c < 256) (hv : v < 2097152) : bits BinOp.or IntKind.u64 (v : Int) (IntKind.u64.wrap (IntKind.u64.wrap (bits BinOp.and IntKind.u8 (c : Int) 127) * 2097152)) = ((v + c % 128 * 2097152 : Nat) : Int) := by
  rw [mask127 c hc, IntWalk.u64_in ((c % 128 : Nat) : Int) (by omega), IntWalk.u64_in _ (by omega)]
  rw [show ((c % 128 : Nat) : Int) * 2097152 = ((2 ^ 21 * (c % 128) : Nat) : Int) from by omega, u64_or_nat _ _ (by omega) (by omega), Nat.or_comm, ← Nat.two_pow_add_eq_or_of_lt hv]
  omega
theorem digit4 (v c : Nat) (hc : c < 256) (hv : v < 268435456) : bits BinOp.or IntKind.u64 (v : Int) (IntKind.u64.wrap (IntKind.u64.wrap (bits BinOp.and IntKind.u8 (c : Int) 127) * 268435456)) = ((v + c % 128 * 268435456 : Nat) : Int) := by
  rw [mask127 c hc, IntWalk.u64_in ((c % 128 : Nat) : Int) (by omega), IntWalk.u64_in _ (by omega)]
  rw [show ((c % 128 : Nat) : Int) * 268435456 = ((2 ^ 28 * (c % 128) : Nat) : Int) from by omega, u64_or_nat _ _ (by omega) (by omega), Nat.or_comm, ← Nat.two_pow_add_eq_or_of_lt hv]
  omega
theorem decstep0 (c : UInt8) (rest : List UInt8) (v u : Nat) (h6 : ¬ c.toNat < 128) (hu : u = v + c.toNat % 128 * 1) :
    ((dec (5 - 0) (decide (0 = 0)) (c :: rest)).map fun x => (v + 128 ^ 0 * x.1, x.2 + 0)) = (dec (5 - (0 + 1)) (decide (0 + 1 = 0)) rest).map fun x => (u + 128 ^ (0 + 1) * x.1, x.2 + (0 + 1)) := by
  have e : dec (5 - 0) (decide (0 = 0)) (c :: rest) = (dec (5 - (0 + 1)) (decide (0 + 1 = 0)) rest).map fun x => (c.toNat - 128 + 128 * x.1, x.2 + 1) := by
    show dec (4 + 1) true (c :: rest) = (dec 4 false rest).map _
    first | rw [dec, if_neg h6] | simp [dec, h6]
  rw [e, Option.map_map]
  congr 1
  funext x
  have hc : c.toNat < 256 := c.toNat_lt
  show (v + 128 ^ 0 * (c.toNat - 128 + 128 * x.1), x.2 + 1 + 0) = (u + 128 ^ (0 + 1) * x.1, x.2 + (0 + 1))
  have e1 : v + 128 ^ 0 * (c.toNat - 128 + 128 * x.1) = u + 128 ^ (0 + 1) * x.1 := by
    have p1 : (128 : Nat) ^ 0 = 1 := rfl
    have p2 : (128 : Nat) ^ (0 + 1) = 128 := rfl
    rw [p1, p2, hu]
    omega
  have e2 : x.2 + 1 + 0 = x.2 + (0 + 1) := by omega
  rw [e1, e2]
theorem decstep1 (c : UInt8) (rest : List UInt8) (v u : Nat) (h6 : ¬ c.toNat < 128) (hu : u = v + c.toNat % 128 * 128) :
    ((dec (5 - 1) (decide (1 = 0)) (c :: rest)).map fun x => (v + 128 ^ 1 * x.1, x.2 + 1)) = (dec (5 - (1 + 1)) (decide (1 + 1 = 0)) rest).map fun x => (u + 128 ^ (1 + 1) * x.1, x.2 + (1 + 1)) := by
  have e : dec (5 - 1) (decide (1 = 0)) (c :: rest) = (dec (5 - (1 + 1)) (decide (1 + 1 = 0)) rest).map fun x => (c.toNat - 128 + 128 * x.1, x.2 + 1) := by
    show dec (3 + 1) false (c :: rest) = (dec 3 false rest).map _
    first | rw [dec, if_neg h6] | simp [dec, h6]
  rw [e, Option.map_map]
  congr 1
  funext x
  have hc : c.toNat < 256 := c.toNat_lt
  show (v + 128 ^ 1 * (c.toNat - 128 + 128 * x.1), x.2 + 1 + 1) = (u + 128 ^ (1 + 1) * x.1, x.2 + (1 + 1))
  have e1 : v + 128 ^ 1 * (c.toNat - 128 + 128 * x.1) = u + 128 ^ (1 + 1) * x.1 := by
    have p1 : (128 : Nat) ^ 1 = 128 := rfl
    have p2 : (128 : Nat) ^ (1 + 1) = 16384 := rfl
    rw [p1, p2, hu]
    omega
  have e2 : x.2 + 1 + 1 = x.2 + (1 + 1) := by omega
  rw [e1, e2]
theorem decstep2 (c : UInt8) (rest : List UInt8) (v u : Nat) (h6 : ¬ c.toNat < 128) (hu : u = v + c.toNat % 128 * 16384) :
    ((dec (5 - 2) (decide (2 = 0)) (c :: rest)).map fun x => (v + 128 ^ 2 * x.1, x.2 + 2)) = (dec (5 - (2 + 1)) (decide (2 + 1 = 0)) rest).map fun x => (u + 128 ^ (2 + 1) * x.1, x.2 + (2 + 1)) := by
  have e : dec (5 - 2) (decide (2 = 0)) (c :: rest) = (dec (5 - (2 + 1)) (decide (2 + 1 = 0)) rest).map fun x => (c.toNat - 128 + 128 * x.1, x.2 + 1) := by
    show dec (2 + 1) false (c :: rest) = (dec 2 false rest).map _
    first | rw [dec, if_neg h6] | simp [dec, h6]
  rw [e, Option.map_map]
  congr 1
  funext x
  have hc : c.toNat < 256 := c.toNat_lt
  show (v + 128 ^ 2 * (c.toNat - 128 + 128 * x.1), x.2 + 1 + 2) = (u + 128 ^ (2 + 1) * x.1, x.2 + (2 + 1))
  have e1 : v + 128 ^ 2 * (c.toNat - 128 + 128 * x.1) = u + 128 ^ (2 + 1) * x.1 := by
    have p1 : (128 : Nat) ^ 2 = 16384 := rfl
    have p2 : (128 : Nat) ^ (2 + 1) = 2097152 := rfl
    rw [p1, p2, hu]
    omega
  have e2 : x.2 + 1 + 2 = x.2 + (2 + 1) := by omega
  rw [e1, e2]
theorem decstep3 (c : UInt8) (rest : List UInt8) (v u : Nat) (h6 : ¬ c.toNat < 128) (hu : u = v + c.toNat % 128 * 2097152) :
    ((dec (5 - 3) (decide (3 = 0)) (c :: rest)).map fun x => (v + 128 ^ 3 * x.1, x.2 + 3)) = (dec (5 - (3 + 1)) (decide (3 + 1 = 0)) rest).map fun x => (u + 128 ^ (3 + 1) * x.1, x.2 + (3 + 1)) := by
  have e : dec (5 - 3) (decide (3 = 0)) (c :: rest) = (dec (5 - (3 + 1)) (decide (3 + 1 = 0)) rest).map fun x => (c.toNat - 128 + 128 * x.1, x.2 + 1) := by
    show dec (1 + 1) false (c :: rest) = (dec 1 false rest).map _
    first | rw [dec, if_neg h6] | simp [dec, h6]
  rw [e, Option.map_map]
  congr 1
  funext x
  have hc : c.toNat < 256 := c.toNat_lt
  show (v + 128 ^ 3 * (c.toNat - 128 + 128 * x.1), x.2 + 1 + 3) = (u + 128 ^ (3 + 1) * x.1, x.2 + (3 + 1))
  have e1 : v + 128 ^ 3 * (c.toNat - 128 + 128 * x.1) = u + 128 ^ (3 + 1) * x.1 := by
    have p1 : (128 : Nat) ^ 3 = 2097152 := rfl
    have p2 : (128 : Nat) ^ (3 + 1) = 268435456 := rfl
    rw [p1, p2, hu]
    omega
  have e2 : x.2 + 1 + 3 = x.2 + (3 + 1) := by omega
  rw [e1, e2]
theorem decstep4 (c : UInt8) (rest : List UInt8) (v u : Nat) (h6 : ¬ c.toNat < 128) (hu : u = v + c.toNat % 128 * 268435456) :
    ((dec (5 - 4) (decide (4 = 0)) (c :: rest)).map fun x => (v + 128 ^ 4 * x.1, x.2 + 4)) = (dec (5 - (4 + 1)) (decide (4 + 1 = 0)) rest).map fun x => (u + 128 ^ (4 + 1) * x.1, x.2 + (4 + 1)) := by
  have e : dec (5 - 4) (decide (4 = 0)) (c :: rest) = (dec (5 - (4 + 1)) (decide (4 + 1 = 0)) rest).map fun x => (c.toNat - 128 + 128 * x.1, x.2 + 1) := by
    show dec (0 + 1) false (c :: rest) = (dec 0 false rest).map _
    first | rw [dec, if_neg h6] | simp [dec, h6]
  rw [e, Option.map_map]
  congr 1
  funext x
  have hc : c.toNat < 256 := c.toNat_lt
  show (v + 128 ^ 4 * (c.toNat - 128 + 128 * x.1), x.2 + 1 + 4) = (u + 128 ^ (4 + 1) * x.1, x.2 + (4 + 1))
  have e1 : v + 128 ^ 4 * (c.toNat - 128 + 128 * x.1) = u + 128 ^ (4 + 1) * x.1 := by
    have p1 : (128 : Nat) ^ 4 = 268435456 := rfl
    have p2 : (128 : Nat) ^ (4 + 1) = 34359738368 := rfl
    rw [p1, p2, hu]
    omega
  have e2 : x.2 + 1 + 4 = x.2 + (4 + 1) := by omega
  rw [e1, e2]

/-- One number at the front, and how many bytes it has; 0: there is none. -/
def numF (L : List UInt8) : Int × Int := match dec 5 true L with | some (u, k) => (zag u, (k : Int)) | none => (0, 0)
set_option maxRecDepth 100000 in
set_option maxHeartbeats 4000000 in
theorem number_any (s : ByteArray) (w : World) (hs : s.size ≤ 140737488355328) :
    Calls Try.prog 83 #[.string s] w fun e w' => e = .returned (.tuple #[.int .i64 (numF s.data.toList).1, .int .i64 (numF s.data.toList).2]) ∧ w = w' := by
  obtain ⟨L, hL⟩ : ∃ L, L = s.data.toList := ⟨_, rfl⟩
  rw [← hL]
  go_enter Try.func83, Try.ntmps83
  go_wp2
  replace hL := Lib.hid hL
  go_loopg [4, 5] 5 (fun g u i wr => ∃ (k : Nat) (v : Nat), k ≤ 5 ∧ g = 5 - k ∧ i = .int .i64 k ∧ u = .int .u64 v ∧ v < 128 ^ k ∧ dec 5 true L = ((dec (5 - k) (decide (k = 0)) (L.drop k)).map fun x => (v + 128 ^ k * x.1, x.2 + k)) ∧ wr = w)
  case atStart => exact ⟨0, 0, by omega, rfl, rfl, rfl, by simp, by simp, rfl⟩
  case round =>
    replace hL := hL.out
    obtain ⟨k, v, hk, rfl, rfl, rfl, hv, hD, rfl⟩ := hrel
    replace hD := Lib.hid hD
    replace hv := Lib.hid hv
    by_cases h4 : k < s.size
    · by_cases h5 : k < 5
      · have hc : s[k].toNat < 256 := s[k].toNat_lt
        replace hc := Lib.hid hc
        rcases (by omega : k = 0 ∨ k = 1 ∨ k = 2 ∨ k = 3 ∨ k = 4) with rfl | rfl | rfl | rfl | rfl
        · obtain ⟨u, hu⟩ : ∃ u : Nat, u = v + s[0].toNat % 128 * 1 := ⟨_, rfl⟩
          have hE : bits BinOp.or IntKind.u64 (v : Int) (IntKind.u64.wrap (IntKind.u64.wrap (bits BinOp.and IntKind.u8 (s[0].toNat : Int) 127))) = (u : Int) := by rw [hu]; exact digit0 v _ hc.out (by simpa using hv.out)
          have hul : u < 34359738368 := by have h1 := hv.out; have h2 := hc.out; simp at h1; omega
          have hdrop : L.drop 0 = s[0] :: L.drop (0 + 1) := by rw [hL]; exact List.drop_eq_getElem_cons (by simpa using h4)
          replace hL := Lib.hid hL
          have hcc := hc.out
          by_cases h6 : s[0].toNat < 128
          · have hd : (s[0].toNat < 128) := h6
            have fin : numF L = (zag u, 0 + 1) := by
              have hde : dec (5 - 0) (decide (0 = 0)) (s[0] :: L.drop (0 + 1)) = some (s[0].toNat, 1) := by
                simp [dec, h6]
              have hv' : v + 128 ^ 0 * s[0].toNat = u := by
                rw [hu, show s[0].toNat % 128 = s[0].toNat from by omega]
                simp only [show (128 : Nat) ^ 0 = 1 from rfl]
                omega
              rw [numF, hD.out, hdrop, hde]
              simp only [Option.map_some]
              rw [hv']
              rfl
            replace fin := Lib.hid fin
            replace hu := Lib.hid hu
            replace hdrop := Lib.hid hdrop
            have hq : (s[0].toNat : Int) < 128 := by omega
            clear hcc h6 hd
            by_cases hp : u % 2 = 1
            · have hA : bits BinOp.and IntKind.u64 (u : Int) 1 = 1 := by rw [and_one_u64 _ (by omega) (by omega)]; omega
              have hz' : zag u = -((u : Int) / 2) - 1 := by unfold zag; rw [if_pos hp]; omega
              replace hz' := Lib.hid hz'
              replace hp := Lib.hid hp
              go_wp2
              go_ret2
              exact ⟨by rw [fin.out, hz'.out]; rfl, rfl⟩
            · have hA : bits BinOp.and IntKind.u64 (u : Int) 1 = 0 := by rw [and_one_u64 _ (by omega) (by omega)]; omega
              have hz' : zag u = (u : Int) / 2 := by unfold zag; rw [if_neg hp]; omega
              replace hz' := Lib.hid hz'
              replace hp := Lib.hid hp
              go_wp2
              go_ret2
              exact ⟨by rw [fin.out, hz'.out]; rfl, rfl⟩
          · have hnew : dec 5 true L = (dec (5 - (0 + 1)) (decide (0 + 1 = 0)) (L.drop (0 + 1))).map fun x => (u + 128 ^ (0 + 1) * x.1, x.2 + (0 + 1)) := by
              rw [hD.out, hdrop]
              exact decstep0 _ _ v u h6 hu
            have hvn : u < 128 ^ (0 + 1) := by
              have h1 : v < 1 := hv.out
              have h2 : (128 : Nat) ^ (0 + 1) = 128 := rfl
              rw [h2, hu]
              have h3 : s[0].toNat % 128 < 128 := by omega
              generalize s[0].toNat % 128 = q at h3
              omega
            replace hnew := Lib.hid hnew
            replace hvn := Lib.hid hvn
            replace hu := Lib.hid hu
            replace hdrop := Lib.hid hdrop
            have hq : 128 ≤ (s[0].toNat : Int) := by omega
            clear hcc h6
            go_wp2
            go_roundg (5 - (0 + 1))
            case measure => omega
            case rel => exact ⟨0 + 1, u, by omega, rfl, rfl, rfl, hvn.out, hnew.out, rfl⟩
        · obtain ⟨u, hu⟩ : ∃ u : Nat, u = v + s[1].toNat % 128 * 128 := ⟨_, rfl⟩
          have hE : bits BinOp.or IntKind.u64 (v : Int) (IntKind.u64.wrap (IntKind.u64.wrap (bits BinOp.and IntKind.u8 (s[1].toNat : Int) 127) * 128)) = (u : Int) := by rw [hu]; exact digit1 v _ hc.out (by simpa using hv.out)
          have hul : u < 34359738368 := by have h1 := hv.out; have h2 := hc.out; simp at h1; omega
          have hdrop : L.drop 1 = s[1] :: L.drop (1 + 1) := by rw [hL]; exact List.drop_eq_getElem_cons (by simpa using h4)
          replace hL := Lib.hid hL
          have hcc := hc.out
          by_cases h6 : s[1].toNat < 128
          · have hd : (s[1].toNat < 128) := h6
            by_cases h0 : s[1].toNat = 0
            · have hz : ((s[1].toNat : Int) == 0) = true := by simp [h0]
              have fin : numF L = (0, 0) := by
                rw [numF, hD.out, hdrop]
                simp [dec, h0]
              replace fin := Lib.hid fin
              replace h0 := Lib.hid h0
              replace hu := Lib.hid hu
              replace hdrop := Lib.hid hdrop
              replace h6 := Lib.hid h6
              replace hd := Lib.hid hd
              clear hcc
              have hq : (s[1].toNat : Int) < 128 := by have := h6.out; omega
              go_wp2
              go_ret2
              exact ⟨by rw [fin.out]; rfl, rfl⟩
            have hz : ((s[1].toNat : Int) == 0) = false := by simpa using h0
            replace h0 := Lib.hid h0
            have fin : numF L = (zag u, 1 + 1) := by
              have hde : dec (5 - 1) (decide (1 = 0)) (s[1] :: L.drop (1 + 1)) = some (s[1].toNat, 1) := by
                simp [dec, h6, h0.out]
              have hv' : v + 128 ^ 1 * s[1].toNat = u := by
                rw [hu, show s[1].toNat % 128 = s[1].toNat from by omega]
                simp only [show (128 : Nat) ^ 1 = 128 from rfl]
                omega
              rw [numF, hD.out, hdrop, hde]
              simp only [Option.map_some]
              rw [hv']
              rfl
            replace fin := Lib.hid fin
            replace hu := Lib.hid hu
            replace hdrop := Lib.hid hdrop
            have hq : (s[1].toNat : Int) < 128 := by omega
            clear hcc h6 hd
            by_cases hp : u % 2 = 1
            · have hA : bits BinOp.and IntKind.u64 (u : Int) 1 = 1 := by rw [and_one_u64 _ (by omega) (by omega)]; omega
              have hz' : zag u = -((u : Int) / 2) - 1 := by unfold zag; rw [if_pos hp]; omega
              replace hz' := Lib.hid hz'
              replace hp := Lib.hid hp
              go_wp2
              go_ret2
              exact ⟨by rw [fin.out, hz'.out]; rfl, rfl⟩
            · have hA : bits BinOp.and IntKind.u64 (u : Int) 1 = 0 := by rw [and_one_u64 _ (by omega) (by omega)]; omega
              have hz' : zag u = (u : Int) / 2 := by unfold zag; rw [if_neg hp]; omega
              replace hz' := Lib.hid hz'
              replace hp := Lib.hid hp
              go_wp2
              go_ret2
              exact ⟨by rw [fin.out, hz'.out]; rfl, rfl⟩
          · have hnew : dec 5 true L = (dec (5 - (1 + 1)) (decide (1 + 1 = 0)) (L.drop (1 + 1))).map fun x => (u + 128 ^ (1 + 1) * x.1, x.2 + (1 + 1)) := by
              rw [hD.out, hdrop]
              exact decstep1 _ _ v u h6 hu
            have hvn : u < 128 ^ (1 + 1) := by
              have h1 : v < 128 := hv.out
              have h2 : (128 : Nat) ^ (1 + 1) = 16384 := rfl
              rw [h2, hu]
              have h3 : s[1].toNat % 128 < 128 := by omega
              generalize s[1].toNat % 128 = q at h3
              omega
            replace hnew := Lib.hid hnew
            replace hvn := Lib.hid hvn
            replace hu := Lib.hid hu
            replace hdrop := Lib.hid hdrop
            have hq : 128 ≤ (s[1].toNat : Int) := by omega
            clear hcc h6
            go_wp2
            go_roundg (5 - (1 + 1))
            case measure => omega
            case rel => exact ⟨1 + 1, u, by omega, rfl, rfl, rfl, hvn.out, hnew.out, rfl⟩
        · obtain ⟨u, hu⟩ : ∃ u : Nat, u = v + s[2].toNat % 128 * 16384 := ⟨_, rfl⟩
          have hE : bits BinOp.or IntKind.u64 (v : Int) (IntKind.u64.wrap (IntKind.u64.wrap (bits BinOp.and IntKind.u8 (s[2].toNat : Int) 127) * 16384)) = (u : Int) := by rw [hu]; exact digit2 v _ hc.out (by simpa using hv.out)
          have hul : u < 34359738368 := by have h1 := hv.out; have h2 := hc.out; simp at h1; omega
          have hdrop : L.drop 2 = s[2] :: L.drop (2 + 1) := by rw [hL]; exact List.drop_eq_getElem_cons (by simpa using h4)
          replace hL := Lib.hid hL
          have hcc := hc.out
          by_cases h6 : s[2].toNat < 128
          · have hd : (s[2].toNat < 128) := h6
            by_cases h0 : s[2].toNat = 0
            · have hz : ((s[2].toNat : Int) == 0) = true := by simp [h0]
              have fin : numF L = (0, 0) := by
                rw [numF, hD.out, hdrop]
                simp [dec, h0]
              replace fin := Lib.hid fin
              replace h0 := Lib.hid h0
              replace hu := Lib.hid hu
              replace hdrop := Lib.hid hdrop
              replace h6 := Lib.hid h6
              replace hd := Lib.hid hd
              clear hcc
              have hq : (s[2].toNat : Int) < 128 := by have := h6.out; omega
              go_wp2
              go_ret2
              exact ⟨by rw [fin.out]; rfl, rfl⟩
            have hz : ((s[2].toNat : Int) == 0) = false := by simpa using h0
            replace h0 := Lib.hid h0
            have fin : numF L = (zag u, 2 + 1) := by
              have hde : dec (5 - 2) (decide (2 = 0)) (s[2] :: L.drop (2 + 1)) = some (s[2].toNat, 1) := by
                simp [dec, h6, h0.out]
              have hv' : v + 128 ^ 2 * s[2].toNat = u := by
                rw [hu, show s[2].toNat % 128 = s[2].toNat from by omega]
                simp only [show (128 : Nat) ^ 2 = 16384 from rfl]
                omega
              rw [numF, hD.out, hdrop, hde]
              simp only [Option.map_some]
              rw [hv']
              rfl
            replace fin := Lib.hid fin
            replace hu := Lib.hid hu
            replace hdrop := Lib.hid hdrop
            have hq : (s[2].toNat : Int) < 128 := by omega
            clear hcc h6 hd
            by_cases hp : u % 2 = 1
            · have hA : bits BinOp.and IntKind.u64 (u : Int) 1 = 1 := by rw [and_one_u64 _ (by omega) (by omega)]; omega
              have hz' : zag u = -((u : Int) / 2) - 1 := by unfold zag; rw [if_pos hp]; omega
              replace hz' := Lib.hid hz'
              replace hp := Lib.hid hp
              go_wp2
              go_ret2
              exact ⟨by rw [fin.out, hz'.out]; rfl, rfl⟩
            · have hA : bits BinOp.and IntKind.u64 (u : Int) 1 = 0 := by rw [and_one_u64 _ (by omega) (by omega)]; omega
              have hz' : zag u = (u : Int) / 2 := by unfold zag; rw [if_neg hp]; omega
              replace hz' := Lib.hid hz'
              replace hp := Lib.hid hp
              go_wp2
              go_ret2
              exact ⟨by rw [fin.out, hz'.out]; rfl, rfl⟩
          · have hnew : dec 5 true L = (dec (5 - (2 + 1)) (decide (2 + 1 = 0)) (L.drop (2 + 1))).map fun x => (u + 128 ^ (2 + 1) * x.1, x.2 + (2 + 1)) := by
              rw [hD.out, hdrop]
              exact decstep2 _ _ v u h6 hu
            have hvn : u < 128 ^ (2 + 1) := by
              have h1 : v < 16384 := hv.out
              have h2 : (128 : Nat) ^ (2 + 1) = 2097152 := rfl
              rw [h2, hu]
              have h3 : s[2].toNat % 128 < 128 := by omega
              generalize s[2].toNat % 128 = q at h3
              omega
            replace hnew := Lib.hid hnew
            replace hvn := Lib.hid hvn
            replace hu := Lib.hid hu
            replace hdrop := Lib.hid hdrop
            have hq : 128 ≤ (s[2].toNat : Int) := by omega
            clear hcc h6
            go_wp2
            go_roundg (5 - (2 + 1))
            case measure => omega
            case rel => exact ⟨2 + 1, u, by omega, rfl, rfl, rfl, hvn.out, hnew.out, rfl⟩
        · obtain ⟨u, hu⟩ : ∃ u : Nat, u = v + s[3].toNat % 128 * 2097152 := ⟨_, rfl⟩
          have hE : bits BinOp.or IntKind.u64 (v : Int) (IntKind.u64.wrap (IntKind.u64.wrap (bits BinOp.and IntKind.u8 (s[3].toNat : Int) 127) * 2097152)) = (u : Int) := by rw [hu]; exact digit3 v _ hc.out (by simpa using hv.out)
          have hul : u < 34359738368 := by have h1 := hv.out; have h2 := hc.out; simp at h1; omega
          have hdrop : L.drop 3 = s[3] :: L.drop (3 + 1) := by rw [hL]; exact List.drop_eq_getElem_cons (by simpa using h4)
          replace hL := Lib.hid hL
          have hcc := hc.out
          by_cases h6 : s[3].toNat < 128
          · have hd : (s[3].toNat < 128) := h6
            by_cases h0 : s[3].toNat = 0
            · have hz : ((s[3].toNat : Int) == 0) = true := by simp [h0]
              have fin : numF L = (0, 0) := by
                rw [numF, hD.out, hdrop]
                simp [dec, h0]
              replace fin := Lib.hid fin
              replace h0 := Lib.hid h0
              replace hu := Lib.hid hu
              replace hdrop := Lib.hid hdrop
              replace h6 := Lib.hid h6
              replace hd := Lib.hid hd
              clear hcc
              have hq : (s[3].toNat : Int) < 128 := by have := h6.out; omega
              go_wp2
              go_ret2
              exact ⟨by rw [fin.out]; rfl, rfl⟩
            have hz : ((s[3].toNat : Int) == 0) = false := by simpa using h0
            replace h0 := Lib.hid h0
            have fin : numF L = (zag u, 3 + 1) := by
              have hde : dec (5 - 3) (decide (3 = 0)) (s[3] :: L.drop (3 + 1)) = some (s[3].toNat, 1) := by
                simp [dec, h6, h0.out]
              have hv' : v + 128 ^ 3 * s[3].toNat = u := by
                rw [hu, show s[3].toNat % 128 = s[3].toNat from by omega]
                simp only [show (128 : Nat) ^ 3 = 2097152 from rfl]
                omega
              rw [numF, hD.out, hdrop, hde]
              simp only [Option.map_some]
              rw [hv']
              rfl
            replace fin := Lib.hid fin
            replace hu := Lib.hid hu
            replace hdrop := Lib.hid hdrop
            have hq : (s[3].toNat : Int) < 128 := by omega
            clear hcc h6 hd
            by_cases hp : u % 2 = 1
            · have hA : bits BinOp.and IntKind.u64 (u : Int) 1 = 1 := by rw [and_one_u64 _ (by omega) (by omega)]; omega
              have hz' : zag u = -((u : Int) / 2) - 1 := by unfold zag; rw [if_pos hp]; omega
              replace hz' := Lib.hid hz'
              replace hp := Lib.hid hp
              go_wp2
              go_ret2
              exact ⟨by rw [fin.out, hz'.out]; rfl, rfl⟩
            · have hA : bits BinOp.and IntKind.u64 (u : Int) 1 = 0 := by rw [and_one_u64 _ (by omega) (by omega)]; omega
              have hz' : zag u = (u : Int) / 2 := by unfold zag; rw [if_neg hp]; omega
              replace hz' := Lib.hid hz'
              replace hp := Lib.hid hp
              go_wp2
              go_ret2
              exact ⟨by rw [fin.out, hz'.out]; rfl, rfl⟩
          · have hnew : dec 5 true L = (dec (5 - (3 + 1)) (decide (3 + 1 = 0)) (L.drop (3 + 1))).map fun x => (u + 128 ^ (3 + 1) * x.1, x.2 + (3 + 1)) := by
              rw [hD.out, hdrop]
              exact decstep3 _ _ v u h6 hu
            have hvn : u < 128 ^ (3 + 1) := by
              have h1 : v < 2097152 := hv.out
              have h2 : (128 : Nat) ^ (3 + 1) = 268435456 := rfl
              rw [h2, hu]
              have h3 : s[3].toNat % 128 < 128 := by omega
              generalize s[3].toNat % 128 = q at h3
              omega
            replace hnew := Lib.hid hnew
            replace hvn := Lib.hid hvn
            replace hu := Lib.hid hu
            replace hdrop := Lib.hid hdrop
            have hq : 128 ≤ (s[3].toNat : Int) := by omega
            clear hcc h6
            go_wp2
            go_roundg (5 - (3 + 1))
            case measure => omega
            case rel => exact ⟨3 + 1, u, by omega, rfl, rfl, rfl, hvn.out, hnew.out, rfl⟩
        · obtain ⟨u, hu⟩ : ∃ u : Nat, u = v + s[4].toNat % 128 * 268435456 := ⟨_, rfl⟩
          have hE : bits BinOp.or IntKind.u64 (v : Int) (IntKind.u64.wrap (IntKind.u64.wrap (bits BinOp.and IntKind.u8 (s[4].toNat : Int) 127) * 268435456)) = (u : Int) := by rw [hu]; exact digit4 v _ hc.out (by simpa using hv.out)
          have hul : u < 34359738368 := by have h1 := hv.out; have h2 := hc.out; simp at h1; omega
          have hdrop : L.drop 4 = s[4] :: L.drop (4 + 1) := by rw [hL]; exact List.drop_eq_getElem_cons (by simpa using h4)
          replace hL := Lib.hid hL
          have hcc := hc.out
          by_cases h6 : s[4].toNat < 128
          · have hd : (s[4].toNat < 128) := h6
            by_cases h0 : s[4].toNat = 0
            · have hz : ((s[4].toNat : Int) == 0) = true := by simp [h0]
              have fin : numF L = (0, 0) := by
                rw [numF, hD.out, hdrop]
                simp [dec, h0]
              replace fin := Lib.hid fin
              replace h0 := Lib.hid h0
              replace hu := Lib.hid hu
              replace hdrop := Lib.hid hdrop
              replace h6 := Lib.hid h6
              replace hd := Lib.hid hd
              clear hcc
              have hq : (s[4].toNat : Int) < 128 := by have := h6.out; omega
              go_wp2
              go_ret2
              exact ⟨by rw [fin.out]; rfl, rfl⟩
            have hz : ((s[4].toNat : Int) == 0) = false := by simpa using h0
            replace h0 := Lib.hid h0
            have fin : numF L = (zag u, 4 + 1) := by
              have hde : dec (5 - 4) (decide (4 = 0)) (s[4] :: L.drop (4 + 1)) = some (s[4].toNat, 1) := by
                simp [dec, h6, h0.out]
              have hv' : v + 128 ^ 4 * s[4].toNat = u := by
                rw [hu, show s[4].toNat % 128 = s[4].toNat from by omega]
                simp only [show (128 : Nat) ^ 4 = 268435456 from rfl]
                omega
              rw [numF, hD.out, hdrop, hde]
              simp only [Option.map_some]
              rw [hv']
              rfl
            replace fin := Lib.hid fin
            replace hu := Lib.hid hu
            replace hdrop := Lib.hid hdrop
            have hq : (s[4].toNat : Int) < 128 := by omega
            clear hcc h6 hd
            by_cases hp : u % 2 = 1
            · have hA : bits BinOp.and IntKind.u64 (u : Int) 1 = 1 := by rw [and_one_u64 _ (by omega) (by omega)]; omega
              have hz' : zag u = -((u : Int) / 2) - 1 := by unfold zag; rw [if_pos hp]; omega
              replace hz' := Lib.hid hz'
              replace hp := Lib.hid hp
              go_wp2
              go_ret2
              exact ⟨by rw [fin.out, hz'.out]; rfl, rfl⟩
            · have hA : bits BinOp.and IntKind.u64 (u : Int) 1 = 0 := by rw [and_one_u64 _ (by omega) (by omega)]; omega
              have hz' : zag u = (u : Int) / 2 := by unfold zag; rw [if_neg hp]; omega
              replace hz' := Lib.hid hz'
              replace hp := Lib.hid hp
              go_wp2
              go_ret2
              exact ⟨by rw [fin.out, hz'.out]; rfl, rfl⟩
          · have hnew : dec 5 true L = (dec (5 - (4 + 1)) (decide (4 + 1 = 0)) (L.drop (4 + 1))).map fun x => (u + 128 ^ (4 + 1) * x.1, x.2 + (4 + 1)) := by
              rw [hD.out, hdrop]
              exact decstep4 _ _ v u h6 hu
            have hvn : u < 128 ^ (4 + 1) := by
              have h1 : v < 268435456 := hv.out
              have h2 : (128 : Nat) ^ (4 + 1) = 34359738368 := rfl
              rw [h2, hu]
              have h3 : s[4].toNat % 128 < 128 := by omega
              generalize s[4].toNat % 128 = q at h3
              omega
            replace hnew := Lib.hid hnew
            replace hvn := Lib.hid hvn
            replace hu := Lib.hid hu
            replace hdrop := Lib.hid hdrop
            have hq : 128 ≤ (s[4].toNat : Int) := by omega
            clear hcc h6
            go_wp2
            go_roundg (5 - (4 + 1))
            case measure => omega
            case rel => exact ⟨4 + 1, u, by omega, rfl, rfl, rfl, hvn.out, hnew.out, rfl⟩
      · have hd5 : decide ((k : Int) < 5) = false := by simp; omega
        have hk5 : k = 5 := by omega
        have fin : numF L = (0, 0) := by rw [numF, hD.out, hk5]; rfl
        replace fin := Lib.hid fin
        replace hk5 := Lib.hid hk5
        replace hL := Lib.hid hL
        go_wp2
        go_ret2
        exact ⟨by rw [fin.out]; rfl, rfl⟩
    · have hd4 : decide ((k : Int) < s.size) = false := by simp; omega
      have hdr : L.drop k = [] := List.drop_of_length_le (by rw [hL]; simp; omega)
      have fin : numF L = (0, 0) := by
        rw [numF, hD.out, hdr]
        cases h : 5 - k <;> simp [dec]
      replace fin := Lib.hid fin
      replace hdr := Lib.hid hdr
      replace hL := Lib.hid hL
      go_wp2
      go_ret2
      exact ⟨by rw [fin.out]; rfl, rfl⟩
end Go.Proofs.Ytggfdkkhlokmlaa
