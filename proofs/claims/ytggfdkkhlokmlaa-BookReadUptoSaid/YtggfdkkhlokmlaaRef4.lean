/- The reference's ReadBook: the walk. -/
import Derived.Test.YtggfdkkhlokmlaaReadMath
import Derived.Deep.CutBlock
import Derived.Deep.DeepCutAuto

namespace Go.Proofs.Ytggfdkkhlokmlaa
open Go.RowKit
attribute [local go_sem] dc_size
theorem arr5_any (ns : List Int) (h : ns.length ≤ 5) (k : Nat) (hk : k < 5) : (arr5 ns)[k]? = some (.int .i64 (ns.getD k 0)) := by
  simp only [arr5, List.getElem?_toArray]
  by_cases h1 : k < ns.length
  · rw [List.getElem?_append_left (by simpa using h1)]
    simp [List.getD, List.getElem?_eq_getElem h1]
  · rw [List.getElem?_append_right (by simp; omega), List.getElem?_replicate, if_pos (by simp; omega)]
    simp [List.getD, List.getElem?_eq_none (by omega : ns.length ≤ k)]
/-- What the five numbers came to. -/
def FiveOf (B : List UInt8) (ns : List Int) : Prop := (ns.length = 5 ∧ ∃ r, rdecs 5 B = some (ns, r)) ∨ (ns.length < 5 ∧ rdecs 5 B = none)
/-- How the reference's reading of one number stands behind j bytes that go on. -/
def NumAt (D0 D : List UInt8) (j U sc : Nat) : Prop := sc = 128 ^ j ∧ U < sc ∧ rdec 6 D0 = (rdec (6 - j) D).map fun x => (U + sc * x.1, x.2 + j)
theorem numAt_start (D : List UInt8) : NumAt D D 0 0 1 := by
  refine ⟨rfl, by omega, ?_⟩
  cases rdec 6 D <;> simp
theorem numAt_nil {D0 : List UInt8} {j U sc : Nat} (h : NumAt D0 [] j U sc) : rdec 6 D0 = none := by
  rw [h.2.2]; cases 6 - j <;> rfl
theorem numAt_small {D0 D : List UInt8} {c : UInt8} {j U sc : Nat} (h : NumAt D0 (c :: D) j U sc) (hc : c.toNat < 128) : rdec 6 D0 = some (U + sc * c.toNat, 1 + j) := by
  rw [h.2.2]; cases 6 - j <;> simp [rdec, hc]
theorem numAt_full {D0 D : List UInt8} {c : UInt8} {U sc : Nat} (h : NumAt D0 (c :: D) 6 U sc) (hc : ¬ c.toNat < 128) : rdec 6 D0 = none := by
  rw [h.2.2]; simp [rdec, hc]
theorem numAt_step {D0 D : List UInt8} {c : UInt8} {j U sc : Nat} (h : NumAt D0 (c :: D) j U sc) (hc : ¬ c.toNat < 128) (hj : j < 6) : NumAt D0 D (j + 1) (U + (c.toNat - 128) * sc) (sc * 128) := by
  obtain ⟨h1, h2, h3⟩ := h
  have hlt := c.toNat_lt
  refine ⟨by rw [h1]; rfl, ?_, ?_⟩
  · have : (c.toNat - 128) * sc ≤ 127 * sc := Nat.mul_le_mul_right _ (by omega)
    omega
  · rw [h3, show 6 - j = (6 - (j + 1)) + 1 from by omega]
    simp only [rdec, if_neg hc, Option.map_map]
    congr 1
    funext x
    simp only [Function.comp, Prod.mk.injEq]
    refine ⟨?_, by omega⟩
    rw [Nat.mul_add, Nat.mul_comm sc (c.toNat - 128), Nat.mul_assoc, Nat.add_assoc]
theorem sc_le {j sc : Nat} (h : sc = 128 ^ j) (hj : j < 6) : 1 ≤ sc ∧ sc ≤ 34359738368 := by
  subst h
  rcases (by omega : j = 0 ∨ j = 1 ∨ j = 2 ∨ j = 3 ∨ j = 4 ∨ j = 5) with rfl | rfl | rfl | rfl | rfl | rfl <;> decide
theorem sc_6 {j sc : Nat} (h : sc = 128 ^ j) (hj : j = 6) : sc = 4398046511104 := by
  subst h; subst hj; rfl
theorem sc_any {j sc : Nat} (h : sc = 128 ^ j) (hj : j ≤ 6) : 1 ≤ sc ∧ sc ≤ 4398046511104 := by
  by_cases h6 : j < 6
  · have := sc_le h h6; omega
  · have := sc_6 h (by omega); omega
theorem rdecs_step {B q : List UInt8} {ns : List Int} {v k : Nat} (h : rdecs ns.length B = some (ns, q)) (h1 : rdec 6 q = some (v, k)) : rdecs (ns ++ [zag v]).length B = some (ns ++ [zag v], q.drop k) := by
  rw [List.length_append]
  show rdecs (ns.length + 1) B = _
  simp [rdecs, h, rdec1, h1]
theorem rdecs_stop {B q : List UInt8} {ns : List Int} (h : rdecs ns.length B = some (ns, q)) (h1 : rdec 6 q = none) (hl : ns.length < 5) : FiveOf B ns := by
  refine .inr ⟨hl, ?_⟩
  have := rdecs_dead B (ns.length + 1) (by simp [rdecs, h, rdec1, h1]) (5 - (ns.length + 1))
  rw [show ns.length + 1 + (5 - (ns.length + 1)) = 5 from by omega] at this
  exact this
theorem prod_int {m sc X : Nat} (h : 128 ≤ m) (hX : (m - 128) * sc = X) : ((m : Int) - 128) * (sc : Int) = (X : Int) := by
  rw [← hX, Int.natCast_mul]; congr 1; omega
theorem oneL_cut {c : UInt8} {t : List UInt8} (h : t.length < c.toNat + 2) : oneL (c :: t) = none := by
  unfold oneL; simp only [if_pos h]
theorem bytes_eq {a b : ByteArray} (h : a.toList = b.toList) : a = b := by
  rw [ByteArray.toList_eq, ByteArray.toList_eq] at h
  cases a; cases b
  simp only [ByteArray.mk.injEq]
  exact Array.toList_inj.1 h
/-- What the inner loop leaves: the bytes' end, a byte that goes on too far, or the last byte. -/
def NumEnd (sd : ByteArray) (e q0 q : Nat) (D0 : List UInt8) (U sc : Nat) : Prop :=
  (q = e ∧ rdec 6 D0 = none) ∨ (∃ h : q < sd.size, q < e ∧ ¬ (sd[q]'h).toNat < 128 ∧ rdec 6 D0 = none) ∨ (∃ h : q < sd.size, q < e ∧ (sd[q]'h).toNat < 128 ∧ rdec 6 D0 = some (U + sc * (sd[q]'h).toNat, 1 + (q - q0)))
set_option maxRecDepth 100000 in
set_option maxHeartbeats 20000000 in
theorem readBook_any (s : ByteArray) (w : World) (hs : s.size ≤ 16777216) : Calls Try.prog 36 #[.string s] w (ReadPost s.data.toList w) := by
  obtain ⟨i0, z, hi, hz0, hz1, hz2, hz3⟩ := info44z
  obtain ⟨L, hL⟩ : ∃ L, L = s.data.toList := ⟨_, rfl⟩
  rw [← hL]
  have hLl : L.length = s.size := by rw [hL]; simp
  replace hL := Lib.hid hL
  go_enter Try.func36, Try.ntmps36
  go_wp2
  go_loopg [4, 5] s.size (fun g a b wr => ∃ (n : Nat) (xs : List Deed), n ≤ s.size ∧ g = s.size - n ∧ b = .int .i64 n ∧ OwnActs wr w.heap.size a xs ∧ xs.length * 8 ≤ n ∧ rd L = (xs ++ (rd (L.drop n)).1, n + (rd (L.drop n)).2) ∧ Below w.heap.size w wr)
  case atStart => exact ⟨0, [], by omega, rfl, rfl, ⟨⟨rfl, .inl ⟨rfl, rfl⟩⟩, by simp⟩, by simp, by simp, Below.refl _ _⟩
  case round =>
    obtain ⟨n, xs, hn, rfl, rfl, hown, hxl, hD, hbl⟩ := hrel
    obtain ⟨wo, rfl⟩ : ∃ wo : World, wo = wr := ⟨_, rfl⟩
    obtain ⟨R, hR⟩ : ∃ R, R = L.drop n := ⟨_, rfl⟩
    have hRl : R.length = s.size - n := by rw [hR, List.length_drop, hLl]
    rw [← hR] at hD
    have dead : oneL R = none → rd L = (xs, n) := fun h => by rw [hD, rd_none h]; simp
    by_cases hns : n < s.size
    · obtain ⟨sd, hE⟩ : ∃ sd, s.extract n s.size = sd := ⟨_, rfl⟩
      have hsd : sd.data.toList = R := by rw [hR, ← hE, Lib.extract_data, ← hL.out, ← hLl]; exact List.take_of_length_le (by simp)
      have hds : sd.size = s.size - n := by
        have h1 : sd.size = sd.data.toList.length := by simp
        rw [h1, hsd, hRl]
      obtain ⟨c, t, hct⟩ : ∃ c t, R = c :: t := by
        cases R with
        | nil => simp at hRl; omega
        | cons c t => exact ⟨c, t, rfl⟩
      obtain ⟨n0, hn0⟩ : ∃ n0, sd[0]'(by omega) = n0 := ⟨_, rfl⟩
      have hc0 : c = n0 := by
        have h1 : sd.data.toList[0]? = some c := by rw [hsd, hct]; rfl
        rw [List.getElem?_eq_getElem (by rw [hsd, hRl]; omega)] at h1
        rw [← hn0]
        exact (Option.some.inj h1).symm
      subst hc0
      have hc256 : c.toNat < 256 := c.toNat_lt
      have hsd0 : 0 < sd.size := by omega
      replace hn0 : (sd[0]'hsd0) = c := hn0
      by_cases hlen : c.toNat + 3 ≤ sd.size
      · have hd1 : decide ((sd.size : Int) < (c.toNat : Int) + 3) = false := decide_eq_false (by omega)
        have hd0 : decide ((n : Int) < s.size) = true := decide_eq_true (by omega)
        replace hR := Lib.hid hR
        replace hD := Lib.hid hD
        replace hRl := Lib.hid hRl
        replace hLl := Lib.hid hLl
        replace hct := Lib.hid hct
        replace hsd := Lib.hid hsd
        replace hds := Lib.hid hds
        replace dead := Lib.hid dead
        obtain ⟨B, hBe⟩ : ∃ B, B = t.take c.toNat := ⟨_, rfl⟩
        have htl : t.length + 1 = sd.size := by
          have h1 := hRl.out
          rw [hct.out] at h1
          simp only [List.length_cons] at h1
          rw [hds.out]; exact h1
        have hBl : B.length = c.toNat := by rw [hBe, List.length_take]; omega
        have hdr : Hid (∀ q (h1 : 1 ≤ q) (h2 : q < c.toNat + 1) (h3 : q < sd.size), B.drop (q - 1) = (sd[q]'h3) :: B.drop q) := by
          intro q h1 h2 h3
          obtain ⟨m, rfl⟩ : ∃ m, q = m + 1 := ⟨q - 1, by omega⟩
          have h4 : m < B.length := by omega
          show B.drop m = _
          rw [List.drop_eq_getElem_cons h4]
          congr 1
          have h5 : sd.data.toList[m + 1]? = some (sd[m + 1]'h3) := by rw [List.getElem?_eq_getElem (by simpa using h3)]; rfl
          rw [hsd.out, hct.out, List.getElem?_cons_succ] at h5
          have h6 : B[m]? = t[m]? := by rw [hBe, List.getElem?_take_of_lt (by omega)]
          rw [List.getElem?_eq_getElem h4, h5] at h6
          exact Option.some.inj h6
        have hde : Hid (B.drop (c.toNat + 1 - 1) = []) := by
          show B.drop _ = []
          rw [List.drop_eq_nil_iff]; omega
        replace hBe := Lib.hid hBe
        replace hBl := Lib.hid hBl
        go_upto_block 2 with fail
        go_cut [9, 10, 11, 12] (fun _ s10 _ _ wx => ∃ ns : List Int, ns.length ≤ 5 ∧ s10 = .int .i64 (ns.length : Nat) ∧ wx.heap[wo.heap.size]? = some (.cells (arr5 ns) 75 (0, 0)) ∧ FiveOf B ns ∧ Below wo.heap.size wo wx)
        case first =>
          go_wp2_with fail
          go_loopg [9, 10, 11, 12] 5 (fun g s9 s10 _ _ wr => ∃ (ns : List Int) (q : Nat), ns.length ≤ 5 ∧ g = 5 - ns.length ∧ s10 = .int .i64 (ns.length : Nat) ∧ s9 = .int .i64 (q : Nat) ∧ 1 ≤ q ∧ q ≤ c.toNat + 1 ∧ rdecs ns.length B = some (ns, B.drop (q - 1)) ∧ wr.heap[wo.heap.size]? = some (.cells (arr5 ns) 75 (0, 0)) ∧ Below wo.heap.size wo wr)
          case atStart => exact ⟨[], 1, by simp, rfl, rfl, rfl, by omega, by omega, rfl, hnew _ _, (Below.refl _ _).alloc (Nat.le_refl _) _⟩
          case round =>
            obtain ⟨ns, q, hns5, rfl, rfl, rfl, hq1, hq2, hns, harr, hbo⟩ := hrel
            obtain ⟨wi, rfl⟩ : ∃ wi : World, wi = wr := ⟨_, rfl⟩
            obtain ⟨k, hk⟩ : ∃ k, ns.length = k := ⟨_, rfl⟩
            obtain ⟨D0, hD0⟩ : ∃ D0, D0 = B.drop (q - 1) := ⟨_, rfl⟩
            replace hns := Lib.hid hns
            replace harr := Lib.hid harr
            rw [hk]
            by_cases hk5 : k < 5
            · have hk5d : decide ((k : Int) < 5) = true := decide_eq_true (by omega)
              replace hk := Lib.hid hk
              replace hD0 := Lib.hid hD0
              go_upto_block 4 with fail
              go_cut [9, 11, 12] (fun s9 s11 s12 wx => ∃ (q' U sc : Nat) (sci : Int), sci = sc ∧ 1 ≤ q' ∧ q' ≤ c.toNat + 1 ∧ q ≤ q' ∧ s9 = .int .i64 q' ∧ s11 = .int .i64 U ∧ s12 = .int .i64 sci ∧ 1 ≤ sc ∧ sc ≤ 4398046511104 ∧ U < sc ∧ NumEnd sd (c.toNat + 1) q q' D0 U sc ∧ wx = wi)
              case first =>
                go_wp2_with fail
                go_loopg [9, 11, 12] (c.toNat + 1 - q) (fun g s9 s11 s12 wr => ∃ (j q' U sc : Nat) (sci : Int), sci = sc ∧ j ≤ 6 ∧ 1 ≤ q' ∧ q' ≤ c.toNat + 1 ∧ q' = q + j ∧ g = c.toNat + 1 - q' ∧ s9 = .int .i64 q' ∧ s11 = .int .i64 U ∧ s12 = .int .i64 sci ∧ NumAt D0 (B.drop (q' - 1)) j U sc ∧ wr = wi)
                case atStart => exact ⟨0, q, 0, 1, 1, rfl, by omega, hq1, hq2, rfl, rfl, rfl, rfl, rfl, by rw [hD0.out]; exact numAt_start _, rfl⟩
                case round =>
                  obtain ⟨j, q', U, sc, sci, hsci, hj, hq1', hq2', hqj, rfl, rfl, rfl, rfl, hNA, rfl⟩ := hrel
                  replace hqj := Lib.hid hqj
                  have hscn := sc_any hNA.1 hj
                  have hscb : 1 ≤ sci ∧ sci ≤ 4398046511104 := by omega
                  have hUs := hNA.2.1
                  have hUs2 : (U : Int) < sci := by omega
                  replace hscn := Lib.hid hscn
                  replace hUs := Lib.hid hUs
                  replace hsci := Lib.hid hsci
                  by_cases hqe : q' < c.toNat + 1
                  · have hqs : q' < sd.size := by omega
                    have hcell := hdr.out q' hq1' hqe hqs
                    rw [hcell] at hNA
                    obtain ⟨m, hm⟩ : ∃ m, (sd[q']'hqs).toNat = m := ⟨_, rfl⟩
                    have hm256 : m < 256 := by rw [← hm]; exact (sd[q']'hqs).toNat_lt
                    by_cases hbig : 128 ≤ m
                    · have hnb : ¬ (sd[q']'hqs).toNat < 128 := by rw [hm]; omega
                      by_cases hj6 : j < 6
                      · have hsln := sc_le hNA.1 hj6
                        have hsl : sci ≤ 34359738368 := by rw [hsci.out]; omega
                        have hsd' : decide (sci < 1099511627776) = true := decide_eq_true (by omega)
                        replace hsln := Lib.hid hsln
                        have hNA2 := numAt_step hNA hnb hj6
                        rw [hm] at hNA2
                        obtain ⟨X, hX⟩ : ∃ X, (m - 128) * sc = X := ⟨_, rfl⟩
                        have hXb : X ≤ 127 * sc := by rw [← hX]; exact Nat.mul_le_mul_right _ (by omega)
                        have hXi : ((m : Int) - 128) * sci = (X : Int) := by rw [hsci.out]; exact prod_int hbig hX
                        have hXb2 : (X : Int) ≤ 127 * sci := by rw [hsci.out]; omega
                        replace hXb := Lib.hid hXb
                        rw [hX] at hNA2
                        replace hNA2 := Lib.hid hNA2
                        replace hX := Lib.hid hX
                        replace hNA := Lib.hid hNA
                        replace hcell := Lib.hid hcell
                        replace hnb := Lib.hid hnb
                        go_wp2_with fail
                        go_roundg (c.toNat + 1 - (q' + 1))
                        case measure => omega
                        case rel => exact ⟨j + 1, q' + 1, U + X, sc * 128, sci * 128, by rw [hsci.out]; omega, by omega, by omega, by omega, by have := hqj.out; omega, rfl, by go_num, by go_num, rfl, hNA2.out, rfl⟩
                      · have hsl := sc_6 hNA.1 (by omega)
                        have hsd' : decide (sci < 1099511627776) = false := decide_eq_false (by rw [hsci.out, hsl]; omega)
                        replace hsl := Lib.hid hsl
                        have fin := numAt_full (by rw [show j = 6 from by omega] at hNA; exact hNA) hnb
                        replace hNA := Lib.hid hNA
                        replace hcell := Lib.hid hcell
                        replace fin := Lib.hid fin
                        replace hnb := Lib.hid hnb
                        go_wp2_with fail
                        go_meet
                        case rel => exact ⟨q', U, sc, _, hsci.out, by omega, by omega, by have := hqj.out; omega, rfl, rfl, rfl, hscn.out.1, hscn.out.2, hUs.out, .inr (.inl ⟨hqs, hqe, hnb.out, fin.out⟩), rfl⟩
                    · have fin := numAt_small hNA (by rw [hm]; omega)
                      rw [show j = q' - q from by have := hqj.out; omega] at fin
                      replace hNA := Lib.hid hNA
                      replace hcell := Lib.hid hcell
                      replace fin := Lib.hid fin
                      go_wp2_with fail
                      go_meet
                      case rel => exact ⟨q', U, sc, _, hsci.out, by omega, by omega, by have := hqj.out; omega, rfl, rfl, rfl, hscn.out.1, hscn.out.2, hUs.out, .inr (.inr ⟨hqs, hqe, by rw [hm]; omega, fin.out⟩), rfl⟩
                  · have hqe' : q' = c.toNat + 1 := by omega
                    have hd2 : decide ((q' : Int) < (c.toNat : Int) + 1) = false := decide_eq_false (by omega)
                    rw [show q' - 1 = c.toNat + 1 - 1 from by omega, hde.out] at hNA
                    have fin := numAt_nil hNA
                    replace hNA := Lib.hid hNA
                    replace fin := Lib.hid fin
                    replace hqe' := Lib.hid hqe'
                    go_wp2_with fail
                    go_meet
                    case rel => exact ⟨q', U, sc, _, hsci.out, by omega, by omega, by have := hqj.out; omega, rfl, rfl, rfl, hscn.out.1, hscn.out.2, hUs.out, .inl ⟨hqe'.out, fin.out⟩, rfl⟩
              case rest =>
                obtain ⟨q', U, sc, sci, hsci, hq1', hq2', hqq, rfl, rfl, rfl, hs1, hs2, hUs, hend, rfl⟩ := hcut
                replace hsci := Lib.hid hsci
                replace hUs := Lib.hid hUs
                replace hs1 := Lib.hid hs1
                replace hs2 := Lib.hid hs2
                rcases hend with ⟨hqe, hno⟩ | ⟨hqs, hqe, hbig, hno⟩ | ⟨hqs, hqe, hsm, hyes⟩
                · have fin := rdecs_stop hns.out (by rw [← hD0.out]; exact hno) (by rw [hk.out]; exact hk5)
                  have hd2 : decide ((c.toNat : Int) + 1 ≤ (q' : Int)) = true := decide_eq_true (by omega)
                  have hd3 : decide ((c.toNat : Int) + 3 - 2 ≤ (q' : Int)) = true := decide_eq_true (by omega)
                  replace hqe := Lib.hid hqe
                  replace hno := Lib.hid hno
                  replace fin := Lib.hid fin
                  go_wp2_with fail
                  go_meet
                  case rel => exact ⟨ns, by have := hk.out; omega, by rw [hk.out], harr.out, fin.out, hbo⟩
                · have fin := rdecs_stop hns.out (by rw [← hD0.out]; exact hno) (by rw [hk.out]; exact hk5)
                  obtain ⟨m, hm⟩ : ∃ m, (sd[q']'hqs).toNat = m := ⟨_, rfl⟩
                  rw [hm] at hbig
                  have hm256 : m < 256 := by rw [← hm]; exact (sd[q']'hqs).toNat_lt
                  have hbig2 : (128 : Int) ≤ (m : Int) := by omega
                  have hbig3 : decide ((128 : Int) ≤ (m : Int)) = true := decide_eq_true hbig2
                  have hd3 : decide ((c.toNat : Int) + 3 - 2 ≤ (q' : Int)) = false := decide_eq_false (by omega)
                  replace hno := Lib.hid hno
                  replace fin := Lib.hid fin
                  replace hbig := Lib.hid hbig
                  go_wp2_with fail
                  go_meet
                  case rel => exact ⟨ns, by have := hk.out; omega, by rw [hk.out], harr.out, fin.out, hbo⟩
                · obtain ⟨m, hm⟩ : ∃ m, (sd[q']'hqs).toNat = m := ⟨_, rfl⟩
                  rw [hm] at hsm hyes
                  have hbig3 : decide ((128 : Int) ≤ (m : Int)) = false := decide_eq_false (by omega)
                  have hd3 : decide ((c.toNat : Int) + 3 - 2 ≤ (q' : Int)) = false := decide_eq_false (by omega)
                  have hUo := hUs.out
                  have hm128 : (m : Int) < 128 := by omega
                  obtain ⟨Z, hZ⟩ : ∃ Z, U + sc * m = Z := ⟨_, rfl⟩
                  obtain ⟨Y, hY⟩ : ∃ Y, (m : Int) * sci = Y := ⟨_, rfl⟩
                  obtain ⟨Zi, hZi⟩ : ∃ Zi, (U : Int) + Y = Zi := ⟨_, rfl⟩
                  have hYn : Y = ((sc * m : Nat) : Int) := by rw [← hY, hsci.out, Int.natCast_mul, Int.mul_comm]
                  have hZn : Zi = (Z : Int) := by rw [← hZi, hYn, ← hZ]; omega
                  have hYb : 0 ≤ Y ∧ Y ≤ 558551906910208 := by
                    have h1 : sc * m ≤ 4398046511104 * 127 := Nat.mul_le_mul hs2.out (by omega)
                    omega
                  have hUb : (U : Int) < sci := by rw [hsci.out]; omega
                  have hZb : 0 ≤ Zi ∧ Zi ≤ 562949953421312 := by
                    have := hs2.out
                    omega
                  have hT : (-Zi).tdiv 2 = -(Zi / 2) := by rw [Int.neg_tdiv, Int.tdiv_eq_ediv_of_nonneg hZb.1]
                  have hstep : rdecs (ns ++ [zag Z]).length B = some (ns ++ [zag Z], B.drop (q' + 1 - 1)) := by
                    have h1 := rdecs_step (q := D0) (ns := ns) (B := B) (by rw [hD0.out]; exact hns.out) hyes
                    rw [hZ] at h1
                    rw [h1, hD0.out, List.drop_drop]
                    congr 3
                    omega
                  have hnl := hk.out
                  have hset : ∀ v : Int, (arr5 ns).setIfInBounds k (.int .i64 v) = arr5 (ns ++ [v]) := fun v => by rw [← hnl]; exact arr5_set ns v (by omega)
                  have hset2 : ∀ u v : Int, ((arr5 ns).setIfInBounds k (.int .i64 u)).setIfInBounds k (.int .i64 v) = arr5 (ns ++ [v]) := fun u v => by
                    rw [← hset v]; simp
                  have hcell : wc.cell? ⟨wo.heap.size, k, none⟩ = some (.int .i64 0) := by
                    rw [cells_at harr.out, ← hnl]; exact arr5_at ns (by omega)
                  have hfz : wc.frozen? ⟨wo.heap.size, k, none⟩ = false := frozenAt harr.out _
                  have hlen2 : (ns ++ [zag Z]).length = k + 1 := by simp [hnl]
                  by_cases hpar : Z % 2 = 1
                  · have hpz : (Zi % 2 == 1) = true := by rw [beq_iff_eq, hZn]; omega
                    have hv : -(Zi / 2) - 1 = zag Z := by rw [hZn]; simp only [zag, if_pos hpar]; omega
                    replace hv := Lib.hid hv
                    replace hset := Lib.hid hset
                    replace hset2 := Lib.hid hset2
                    replace hstep := Lib.hid hstep
                    replace hYn := Lib.hid hYn
                    replace hZn := Lib.hid hZn
                    replace hZ := Lib.hid hZ
                    replace hUo := Lib.hid hUo
                    replace hyes := Lib.hid hyes
                    replace hnl := Lib.hid hnl
                    replace hlen2 := Lib.hid hlen2
                    replace hpar := Lib.hid hpar
                    replace hsm := Lib.hid hsm
                    go_wp2_with fail
                    go_roundg (5 - (k + 1))
                    case measure => have := hnl.out; omega
                    case rel => exact ⟨ns ++ [zag Z], q' + 1, by have := hlen2.out; omega, by rw [hlen2.out], by rw [hlen2.out]; go_num, by go_num, by omega, by omega, hstep.out, by rw [← hv.out, ← hset2.out (Zi / 2)]; exact hsetSame (hsetSame harr.out _) _, (hbo.setCell (Nat.le_refl _) _).setCell (Nat.le_refl _) _⟩
                  · have hpz : (Zi % 2 == 1) = false := by rw [beq_eq_false_iff_ne, hZn]; omega
                    have hv : Zi / 2 = zag Z := by rw [hZn]; simp only [zag, if_neg hpar]; omega
                    replace hv := Lib.hid hv
                    replace hset := Lib.hid hset
                    replace hset2 := Lib.hid hset2
                    replace hstep := Lib.hid hstep
                    replace hYn := Lib.hid hYn
                    replace hZn := Lib.hid hZn
                    replace hZ := Lib.hid hZ
                    replace hUo := Lib.hid hUo
                    replace hyes := Lib.hid hyes
                    replace hnl := Lib.hid hnl
                    replace hlen2 := Lib.hid hlen2
                    replace hpar := Lib.hid hpar
                    replace hsm := Lib.hid hsm
                    go_wp2_with fail
                    go_roundg (5 - (k + 1))
                    case measure => have := hnl.out; omega
                    case rel => exact ⟨ns ++ [zag Z], q' + 1, by have := hlen2.out; omega, by rw [hlen2.out], by rw [hlen2.out]; go_num, by go_num, by omega, by omega, hstep.out, by rw [← hv.out, ← hset.out]; exact hsetSame harr.out _, hbo.setCell (Nat.le_refl _) _⟩
            · have hk5d : decide ((k : Int) < 5) = false := decide_eq_false (by omega)
              go_wp2_with fail
              go_meet
              case rel =>
                exact ⟨ns, by omega, by rw [hk], harr.out, .inl ⟨by omega, _, by have := hns.out; rw [show ns.length = 5 from by omega] at this; exact this⟩, hbo⟩
        case rest =>
          obtain ⟨ns, hns5, rfl, harr, hfive, hbo⟩ := hcut
          obtain ⟨x, hx⟩ : ∃ x, deedOf ns = x := ⟨_, rfl⟩
          have gv : ∃ v0 v1 v2 v3 v4 : Int, (arr5 ns)[0]? = some (.int .i64 v0) ∧ (arr5 ns)[1]? = some (.int .i64 v1) ∧ (arr5 ns)[2]? = some (.int .i64 v2) ∧ (arr5 ns)[3]? = some (.int .i64 v3) ∧ (arr5 ns)[4]? = some (.int .i64 v4) ∧ (#[.int .i64 v0, .int .i64 v1, .int .i64 v2, .int .i64 v3, .int .i64 v4] : Array Value) = dc x :=
            ⟨_, _, _, _, _, arr5_any ns hns5 0 (by omega), arr5_any ns hns5 1 (by omega), arr5_any ns hns5 2 (by omega), arr5_any ns hns5 3 (by omega), arr5_any ns hns5 4 (by omega), by rw [← hx]; rfl⟩
          obtain ⟨v0, v1, v2, v3, v4, g0, g1, g2, g3, g4, hdx⟩ := gv
          have c0 : wc.cell? ⟨wo.heap.size, 0, none⟩ = some (.int .i64 v0) := (cells_at harr 0).trans g0
          have c1 : wc.cell? ⟨wo.heap.size, 1, none⟩ = some (.int .i64 v1) := (cells_at harr 1).trans g1
          have c2 : wc.cell? ⟨wo.heap.size, 2, none⟩ = some (.int .i64 v2) := (cells_at harr 2).trans g2
          have c3 : wc.cell? ⟨wo.heap.size, 3, none⟩ = some (.int .i64 v3) := (cells_at harr 3).trans g3
          have c4 : wc.cell? ⟨wo.heap.size, 4, none⟩ = some (.int .i64 v4) := (cells_at harr 4).trans g4
          clear g0 g1 g2 g3 g4
          replace hdx := Lib.hid hdx
          obtain ⟨sf, hsf⟩ : ∃ sf, str (framed x).1 = sf := ⟨_, rfl⟩
          obtain ⟨E, hE2⟩ : ∃ E, (framed x).2 = E := ⟨_, rfl⟩
          have cF := frameOf_any x
          rw [hsf, hE2] at cF
          replace cF := Lib.hid cF
          replace hsf := Lib.hid hsf
          replace hE2 := Lib.hid hE2
          replace hx := Lib.hid hx
          replace hfive := Lib.hid hfive
          replace harr := Lib.hid harr
          go_upto_region 23 with (first | go_skip | (refine st_new 44 _ _ rfl wc 44 _ rfl rfl rfl _ rfl info44 rfl ?_ ?_))
          · simp [Value.oneCell']
          rw [hdx.out]
          go_upto_region 24 with (first | go_skip | (go_at_call 34; refine (cF.out _).mono ?_; rintro e w2 ⟨rfl, hb2⟩) | (refine ld_row 44 _ rfl rfl _ rfl _ _ _ _ (hnew wc (.cells (dc x) 44)) Try.underlying44 rfl info44 ?_))
          have hba : Below wo.heap.size wo w2 := (hbo.alloc hbo.size (.cells (dc x) 44)).trans (hb2.mono (hbo.alloc hbo.size (.cells (dc x) 44)).size)
          have hbb : Below w.heap.size w w2 := hbl.trans (hba.mono hbl.size)
          have hact : w2.heap[wc.heap.size]? = some (.cells (dc x) 44 (0, 0)) := hkeep hb2 (hnew _ _)
          obtain ⟨se, hse⟩ : ∃ se, sd.extract 0 (c.toNat + 3) = se := ⟨_, rfl⟩
          have hsel : se.data.toList = R.take (c.toNat + 3) := by rw [← hse, Lib.extract_data, hsd.out]; rfl
          have hlee : (c.toNat : Int) + 3 ≤ (sd.size : Int) := by omega
          replace harr := harr.out
          replace hact := Lib.hid hact
          replace hsel := Lib.hid hsel
          replace harr := Lib.hid harr
          have stop : oneL R = none → Hid (rd L = (xs, n)) := fun h => Lib.hid (dead.out h)
          have some_of : ∀ y k, oneL R = some (y, k) → ∃ ns', rdecs 5 B = some (ns', []) ∧ deedOf ns' = y ∧ noted y = true ∧ frame y = R.take (c.toNat + 3) := fun y k h => by
            rw [hct.out] at h ⊢
            rw [hBe.out]
            exact rdecs_of_one h
          rcases hfive.out with ⟨h5, r, hr5⟩ | ⟨h5, hnone⟩
          · have hk5 : decide ((ns.length : Int) < 5) = false := decide_eq_false (by omega)
            cases hnx : noted x with
            | true =>
              have e1 : E = 0 := by rw [← hE2.out]; simp [framed, hnx]
              have e2 : sf = str (frame x) := by rw [← hsf.out]; simp [framed, hnx]
              subst e1
              by_cases hf : sf = se
              · have hfr : frame x = R.take (c.toNat + 3) := by rw [← hsel.out, ← hf, e2, str_data]
                have h1 : oneL R = some (x, c.toNat + 3) := by
                  rw [hct.out] at hfr ⊢
                  exact one_of_rdecs (by omega) hnx hfr
                have hD2 := hD.out
                rw [rd_some h1] at hD2
                have hfb : (sf.toList == se.toList) = true := by rw [hf]; exact beq_self_eq_true _
                have hown1 : Hid (OwnActs (w2.alloc (.cells (dc x) 44)) w.heap.size u4 xs) := Lib.hid ((hown.below hba).below ((Below.refl _ _).alloc (Nat.le_refl _) _))
                have hnk : n + (c.toNat + 3) ≤ s.size := by have := hds.out; omega
                have h8 := frame8 h1
                clear some_of stop
                replace hD2 := Lib.hid hD2
                replace hfr := Lib.hid hfr
                replace h1 := Lib.hid h1
                replace hr5 := Lib.hid hr5
                replace e2 := Lib.hid e2
                replace hf := Lib.hid hf
                replace hnx := Lib.hid hnx
                go_wp2_with (first | go_skip | (at_builtin; refine wpList_append_own _ rfl _ _ 48 rfl w.heap.size 44 i0 z 5 40 Try.underlying48 hi hz0 hz1 hz2 hz3 (by decide) u4 xs.length (flatD xs) rfl hown1.out.1 ⟨w2.heap.size, 0, none⟩ 1 1 (dc x).toList rfl rfl ?c1 ?c2 ?c3 ?c4 ?c5 ?_) | (refine ld_row 44 _ rfl rfl _ rfl _ _ _ _ hact.out Try.underlying44 rfl info44 ?_))
                case c1 =>
                  suffices h : ∀ C, C = dc x → ∀ (j : Nat) (u : Value), (dc x)[j]? = some u → C[j]? = some u from h _ rfl
                  intro C hC
                  subst hC
                  exact fun _ _ hu => hu
                case c2 => intro u hu; first | exact Array.all_eq_true_iff_forall_mem.1 (dc_one x) u hu | exact Array.all_eq_true_iff_forall_mem.1 (dc_one x) u (Array.mem_toList_iff.1 hu)
                case c3 => simp only [maxLen]; omega
                case c4 => omega
                case c5 =>
                  have h1 := hbb.size
                  omega
                intro v' w3 hown2 hgr _
                have hfl : flatD (xs ++ [x]) = flatD xs ++ (dc x).toList := by rw [flatD_append]; simp [flatD]
                have hO2 : OwnActs w3 w.heap.size v' (xs ++ [x]) := ⟨by rw [hfl]; simpa using hown2, by simp; omega⟩
                have hbl2 : Below w.heap.size w w3 := by
                  suffices h : ∀ C, World.grownBy (w2.alloc (.cells C 44)) w3 (Value.ownBlock u4) → C = dc x → Below w.heap.size w w3 from h _ hgr rfl
                  intro C hgr hC
                  subst hC
                  have h3 : Below w.heap.size w (w2.alloc (.cells (dc x) 44)) := hbb.alloc hbb.size _
                  refine h3.grown hgr h3.size fun g hg => ?_
                  rcases hown.1.2 with ⟨rfl, _⟩ | ⟨g', cap, cur, rfl, hb', _⟩
                  · simp [Value.ownBlock] at hg
                  · simp [Value.ownBlock] at hg; omega
                replace hown2 := Lib.hid hown2
                replace hfl := Lib.hid hfl
                clear hgr hown1 hown
                go_wp2
                go_roundg (s.size - (n + (c.toNat + 3)))
                case measure => omega
                case rel => exact ⟨n + (c.toNat + 3), xs ++ [x], by omega, rfl, by go_num, hO2, by simp; omega, by rw [hD2.out, show L.drop (n + (c.toNat + 3)) = R.drop (c.toNat + 3) from by rw [hR.out, List.drop_drop]]; simp [Nat.add_assoc], hbl2⟩
              · have hfb : (sf.toList == se.toList) = false := by
                  rw [beq_eq_false_iff_ne]
                  intro e
                  exact hf (bytes_eq e)
                have fin := stop (by
                  cases h1 : oneL R with
                  | none => rfl
                  | some q =>
                    obtain ⟨ns', h2, h3, h4, h6⟩ := some_of q.1 q.2 h1
                    rw [hr5] at h2
                    simp only [Option.some.injEq, Prod.mk.injEq] at h2
                    rw [← h2.1, hx.out] at h3
                    refine absurd ?_ hf
                    have h7 : se = str (R.take (c.toNat + 3)) := by rw [← hsel.out, str_of]
                    rw [h7, ← h6, ← h3, e2])
                clear some_of stop
                replace hr5 := Lib.hid hr5
                replace e2 := Lib.hid e2
                replace hf := Lib.hid hf
                replace hnx := Lib.hid hnx
                go_wp2_with fail
                go_ret2
                exact ⟨⟨u4, by rw [fin.out]; rfl, by rw [fin.out]; exact hown.below hba⟩, hbb⟩
            | false =>
              have e1 : E = 3 := by rw [← hE2.out]; simp [framed, hnx]
              subst e1
              have fin := stop (by
                cases h1 : oneL R with
                | none => rfl
                | some q =>
                  obtain ⟨ns', h2, h3, h4, _⟩ := some_of q.1 q.2 h1
                  rw [hr5] at h2
                  simp only [Option.some.injEq, Prod.mk.injEq] at h2
                  rw [← h2.1, hx.out] at h3
                  rw [← h3, hnx] at h4
                  cases h4)
              clear some_of stop
              replace hr5 := Lib.hid hr5
              replace hse := Lib.hid hse
              replace hnx := Lib.hid hnx
              go_wp2_with fail
              go_ret2
              exact ⟨⟨u4, by rw [fin.out]; rfl, by rw [fin.out]; exact hown.below hba⟩, hbb⟩
          · have hk5 : decide ((ns.length : Int) < 5) = true := decide_eq_true (by omega)
            have fin := stop (by
              cases h1 : oneL R with
              | none => rfl
              | some q =>
                obtain ⟨ns', h2, _⟩ := some_of q.1 q.2 h1
                rw [hnone] at h2
                cases h2)
            clear some_of stop
            replace hnone := Lib.hid hnone
            replace hse := Lib.hid hse
            go_wp2_with fail
            go_ret2
            exact ⟨⟨u4, by rw [fin.out]; rfl, by rw [fin.out]; exact hown.below hba⟩, hbb⟩
      · have fin := dead (by
          rw [hct]
          have h1 : t.length + 1 = sd.size := by
            have h2 := hRl
            rw [hct] at h2
            simp only [List.length_cons] at h2
            rw [hds]; exact h2
          exact oneL_cut (by omega))
        have hd1 : decide ((sd.size : Int) < (c.toNat : Int) + 3) = true := decide_eq_true (by omega)
        have hd0 : decide ((n : Int) < s.size) = true := decide_eq_true (by omega)
        clear dead
        replace fin := Lib.hid fin
        replace hR := Lib.hid hR
        replace hD := Lib.hid hD
        replace hRl := Lib.hid hRl
        replace hLl := Lib.hid hLl
        replace hct := Lib.hid hct
        replace hsd := Lib.hid hsd
        replace hds := Lib.hid hds
        go_wp2_with fail
        go_ret2
        exact ⟨⟨u4, by rw [fin.out]; rfl, by rw [fin.out]; exact hown⟩, hbl⟩
    · have fin := dead (by
        have : R = [] := List.length_eq_zero_iff.1 (by omega)
        rw [this]; rfl)
      have hd : decide ((n : Int) < s.size) = false := decide_eq_false (by omega)
      replace fin := Lib.hid fin
      clear dead
      replace hR := Lib.hid hR
      replace hD := Lib.hid hD
      replace hRl := Lib.hid hRl
      replace hLl := Lib.hid hLl
      go_wp2_with fail
      go_ret2
      exact ⟨⟨u4, by rw [fin.out]; rfl, by rw [fin.out]; exact hown⟩, hbl⟩
end Go.Proofs.Ytggfdkkhlokmlaa
