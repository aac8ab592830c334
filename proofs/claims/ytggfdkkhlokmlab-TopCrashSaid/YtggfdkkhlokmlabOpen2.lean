/- An act, a row of acts, four ints, among a law's arguments: opened (written by gen_open2.py). -/
import Derived.Test.YtggfdkkhlokmlabOpen
import Derived.Test.YtggfdkkhlokmlabCBk1
namespace Go.Proofs.Ytggfdkkhlokmlab
open Go.ChangeShapes Go.WideShapes Go.ChangeAt Go.RowKit Go.Deep
section
variable {H : Type} {enc : TypeId × Value → H}
variable {w : World} {sp : Nat → Bool}
theorem cellAct : Try.prog.cellsOf 40 = 5 := by kernel_rfl
theorem addr_zero5 (a : Addr) : (a.add (0 * 5)).add 0 = a := by simp [Addr.add]
theorem act_of5 {cs : List Value} {fuel : Nat} {x : DataW H × List MemPlace} (h : DataW.trod enc Try.prog w 0 sp true fuel 40 cs = some x) : cs.length = 5 ∧ ∀ j, j < 5 → IntCell cs j := by
 obtain ⟨xs, m, _, _, hl, hxl, hf⟩ := DataW.trod_struct Try.underlying40 h
 rw [cellAct] at hl
 refine ⟨hl, fun j hj => ?_⟩
 rcases j with _ | _ | _ | _ | _ | j
 ·have hx : DataW.trod enc Try.prog w 0 sp true m 3 ((cs.drop 0).take (Try.prog.cellsOf 3)) = xs[0]? := hf 0 _ rfl
  rw [List.getElem?_eq_getElem (by rw [hxl]; decide)] at hx
  obtain ⟨n, hn, hw⟩ := int_of hx
  rw [cell3, drop_take (by omega)] at hn
  exact ⟨n, by simpa using hn, hw⟩
 ·have hx : DataW.trod enc Try.prog w 0 sp true m 3 ((cs.drop 1).take (Try.prog.cellsOf 3)) = xs[1]? := hf 1 _ rfl
  rw [List.getElem?_eq_getElem (by rw [hxl]; decide)] at hx
  obtain ⟨n, hn, hw⟩ := int_of hx
  rw [cell3, drop_take (by omega)] at hn
  exact ⟨n, by simpa using hn, hw⟩
 ·have hx : DataW.trod enc Try.prog w 0 sp true m 3 ((cs.drop 2).take (Try.prog.cellsOf 3)) = xs[2]? := hf 2 _ rfl
  rw [List.getElem?_eq_getElem (by rw [hxl]; decide)] at hx
  obtain ⟨n, hn, hw⟩ := int_of hx
  rw [cell3, drop_take (by omega)] at hn
  exact ⟨n, by simpa using hn, hw⟩
 ·have hx : DataW.trod enc Try.prog w 0 sp true m 3 ((cs.drop 3).take (Try.prog.cellsOf 3)) = xs[3]? := hf 3 _ rfl
  rw [List.getElem?_eq_getElem (by rw [hxl]; decide)] at hx
  obtain ⟨n, hn, hw⟩ := int_of hx
  rw [cell3, drop_take (by omega)] at hn
  exact ⟨n, by simpa using hn, hw⟩
 ·have hx : DataW.trod enc Try.prog w 0 sp true m 3 ((cs.drop 4).take (Try.prog.cellsOf 3)) = xs[4]? := hf 4 _ rfl
  rw [List.getElem?_eq_getElem (by rw [hxl]; decide)] at hx
  obtain ⟨n, hn, hw⟩ := int_of hx
  rw [cell3, drop_take (by omega)] at hn
  exact ⟨n, by simpa using hn, hw⟩
 ·omega
/-- What a slice of acts reads as. -/
theorem acts_of5 {cs : List Value} {fuel : Nat} {x : DataW H × List MemPlace} (h : DataW.trod enc Try.prog w 0 (fun _ => true) true fuel 35 cs = some x)
  (hsz : (x.1.weights Try.prog 35).all (· ≤ reachBytes) = true) : ∃ a l cap, cs = [.slice a l.length cap] ∧ ActsAt w a cap l := by
 rcases open_slice Try.underlying35 h with ⟨rfl, rfl⟩ | ⟨a, len, cap, m, n, D, Pl, rfl, _, hl, hm, hmm, rfl, hi⟩
 ·exact ⟨none, [], 0, rfl, ⟨by simp, by simp [maxLen], by simp, fun _ => rfl, fun h => absurd h (by simp)⟩⟩
 ·have hmc : m = cap := by simpa using hmm
  subst hmc
  rw [cellAct] at hi
  have hbytes : Try.prog.bytesOf 40 = 40 := by kernel_rfl
  have hroom : m * 40 ≤ reachBytes := by
   have h1 := List.all_eq_true.1 hsz (m * 40) (by
    simp only [DataW.weights, Try.underlying35, hbytes, List.length_map, List.length_range]
    rw [show len + (m - len) = m from by omega]
    simp)
   simpa using h1
  let pay : Nat → Deed := fun i => ⟨intAt ((w.cells? 0 (a.add (i * 5)) 5).getD []).toArray 0, intAt ((w.cells? 0 (a.add (i * 5)) 5).getD []).toArray 1, intAt ((w.cells? 0 (a.add (i * 5)) 5).getD []).toArray 2,
   intAt ((w.cells? 0 (a.add (i * 5)) 5).getD []).toArray 3, intAt ((w.cells? 0 (a.add (i * 5)) 5).getD []).toArray 4⟩
  have hcell : ∀ i, i < m → ∀ j v, (dc (pay i))[j]? = some v → w.cell? ((a.add (i * 5)).add j) = some v := by
   intro i him j v hv
   obtain ⟨cs', hc, ht⟩ := hi i him
   obtain ⟨_, hcl, hat⟩ := World.cells?_some hc
   obtain ⟨_, hints⟩ := act_of5 ht
   have hj : j < 5 := (Array.getElem?_eq_some_iff.1 hv).1
   have hcell := hat j hj
   rw [hcell]
   obtain ⟨k, hk, _⟩ := hints j hj
   rw [hk]
   have hp : pay i = ⟨intAt cs'.toArray 0, intAt cs'.toArray 1, intAt cs'.toArray 2, intAt cs'.toArray 3, intAt cs'.toArray 4⟩ := by simp only [pay, hc, Option.getD_some]
   rw [hp] at hv
   rw [← hv]
   have hk' : cs'.toArray[j]? = some (.int .i64 k) := by simpa using hk
   rcases j with _ | _ | _ | _ | _ | j
   all_goals first | omega | skip
   all_goals (simp only [dc]; simp [intAt, hk])
  refine ⟨some a, (List.range len).map pay, m, by simp, ⟨by simpa using hl, hm, ?_, by simp, ?_⟩⟩
  ·have h1 : len * 40 ≤ m * 40 := Nat.mul_le_mul_right _ hl
   simp only [reachBytes] at hroom
   simp only [List.length_map, List.length_range]
   omega
  ·intro h0
   simp only [List.length_map, List.length_range] at h0
   have h00 := hcell 0 (by omega) 0 _ rfl
   rw [addr_zero5] at h00
   have ha := addr_eta a (spot_none h00)
   refine ⟨a.block, a.off, by rw [← ha], block_lt_of_cell h00, ?_⟩
   ·intro i p hp j v hv
    have hil : i < len := by
     have := (List.getElem?_eq_some_iff.1 hp).1
     simpa using this
    simp only [List.getElem?_map, List.getElem?_range hil, Option.map_some, Option.some.injEq] at hp
    subst hp
    have := hcell i (by omega) j v hv
    rw [Deep.add_add] at this
    rw [ha] at this
    rw [addr_add] at this
    exact this
set_option maxRecDepth 100000 in
/-- An argument that is a row of acts, opened. -/
theorem acts_of {base : Nat} {v : Value} {d : DataW H} {ps : List MemPlace} (hv : Value.okWide Try.prog w .any base 35 v) (h : DataW.Trod enc Try.prog w 0 (fun _ => true) true 35 v d ps)
  (hsz : (d.weights Try.prog 35).all (· ≤ reachBytes) = true) : ∃ a l cap, v = .slice a l.length cap ∧ ActsAt w a cap l := by
 obtain ⟨a0, len, cap, rfl⟩ := okWide_slice Try.underlying35 hv
 obtain ⟨fuel, hf⟩ := h
 obtain ⟨a, l, cap', he, hp⟩ := acts_of5 (x := (d, ps)) hf hsz
 simp only [Value.cells, List.cons.injEq, and_true] at he
 exact ⟨a, l, cap', he, hp⟩
end
end Go.Proofs.Ytggfdkkhlokmlab


