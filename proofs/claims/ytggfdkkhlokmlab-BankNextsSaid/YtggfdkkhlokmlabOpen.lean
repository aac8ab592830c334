/- A law's frame: its arguments opened to a house, ints, strings; and shut again. -/
import Derived.Test.YtggfdkkhlokmlabRows
import Derived.ProofKit
import Derived.SizedLaws
import Derived.OpenShut
import Derived.Deep.Slices
import Derived.Test.YtggfdkkhlokmlabCLed
namespace Go.Proofs.Ytggfdkkhlokmlab
open Go.ChangeShapes Go.WideShapes Go.ChangeAt Go.RowKit Go.Deep

theorem own : ownKnob Try.prog.godebug = none := by kernel_rfl
theorem laidOut : laidOutB Try.prog = true := by kernel_rfl

section
variable {H : Type} {enc : TypeId × Value → H}
theorem trodAll_stays {W W' : World} (hb : Below W.heap.size W W') {sp : Nat → Bool} : ∀ (ts : List TypeId) (vs : List Value) (ds : List (DataW H)) (ps : List MemPlace),
    (∀ t ∈ ts, Try.prog.readableRec t = true ∧ t < Try.prog.types.size) → (∀ x ∈ ps, x.block < W.heap.size) → (∀ x ∈ ps, sp x.block = true) →
    DataW.TrodAll enc Try.prog W 0 (fun _ => true) true ts vs ds ps → DataW.TrodAll enc Try.prog W' 0 sp true ts vs ds ps
  | [], [], [], _, _, _, _, h => h
  | t :: ts, v :: vs, d :: ds, ps, ht, hl, hs, h => by
    obtain ⟨p, q, h1, h2, rfl⟩ := h
    refine ⟨p, q, ?_, trodAll_stays hb ts vs ds q (fun t h => ht t (by simp [h])) (fun x hx => hl x (by simp [hx])) (fun x hx => hs x (by simp [hx])) h2, rfl⟩
    exact WideElems.Trod_stays laidOut (ht t (by simp)).1 (ht t (by simp)).2 h1 (fun x hx => hb.same (hl x (by simp [hx]))) (fun x hx => hs x (by simp [hx]))
  | [], [], _ :: _, _, _, _, _, h => h.elim
  | [], _ :: _, _, _, _, _, _, h => h.elim
  | _ :: _, [], _, _, _, _, _, h => h.elim
  | _ :: _, _ :: _, [], _, _, _, _, h => h.elim

/-- A law that answers true and leaves all that was there as it was meets its row. -/
theorem law_post {f : Func} {s : ChangeSpec} {W W' : World} {args : Array Value} {ds gs : List (DataW H)} {before : List MemPlace} (hv : s.vars = [])
    (hW : DataW.Whole enc Try.prog f.params.toList s.vars false W args.toList ds gs before) (hread0 : (f.params.toList.all fun t => Try.prog.readableRec t && decide (t < Try.prog.types.size)) = true) (hrt : f.resultTypes = #[4])
    (hres : (s.fn H (ds ++ gs)).results = [.lit (.bool true)]) (hargs : (s.fn H (ds ++ gs)).args = ds) (hvars : (s.fn H (ds ++ gs)).vars = []) (hb : Below W.heap.size W W') : s.post enc Try.prog f false true false false W args (.bool true) W' := by
  have hlt : ∀ p ∈ before, p.block < W.heap.size := fun p hp => hW.lt p hp
  have hread : ∀ t ∈ f.params.toList, Try.prog.readableRec t = true ∧ t < Try.prog.types.size := fun t ht => by simpa using List.all_eq_true.1 hread0 t ht
  have hW0 := hW
  obtain ⟨p, q, hA, hV, rfl, _, _⟩ := hW0
  have hq : q = [] := by
    rw [hv] at hV
    cases gs with
    | nil => exact hV
    | cons g gs => exact hV.elim
  subst hq
  refine ⟨ds, gs, _, [], p, [], hW, ?_, ?_, ?_, World.keptBut_mono (fun x hx => ⟨hx, .inr (.inl (by simpa using hx))⟩) (hb.frame (· ∈ p ++ [])), fun h => by cases h⟩
  · rw [hres, hrt]
    exact trodAll_mk1 (shut_bool Try.underlying4 true)
  · rw [hargs]
    exact trodAll_stays hb _ _ _ _ hread (fun x hx => hlt x (by simp [hx])) (fun x hx => by simpa using hlt x (by simp [hx])) hA
  · rw [hv, hvars]
    rfl

/-! ### a house, opened -/
/-- The int in a cell. -/
def intAt (cs : Array Value) (j : Nat) : Int := match cs[j]? with | some (.int _ n) => n | _ => 0
theorem intAt_eq {cs : Array Value} {j : Nat} {n : Int} (h : cs[j]? = some (.int .i64 n)) : cs[j]? = some (.int .i64 (intAt cs j)) := by simp [intAt, h]
/-- A cell that holds an int of 64 bits. -/
def IntCell (cs : List Value) (j : Nat) : Prop := ∃ n, cs[j]? = some (.int .i64 n) ∧ (Lit.int .i64 n).wf = true

variable {w : World} {sp : Nat → Bool}
theorem cellsT (t n : Nat) (h : Try.prog.cellsOf t = n) : Try.prog.cellsOf t = n := h
theorem cell3 : Try.prog.cellsOf 3 = 1 := by kernel_rfl
theorem cell4i : Try.prog.cellsOf 25 = 4 := by kernel_rfl
theorem cell44 : Try.prog.cellsOf 26 = 16 := by kernel_rfl
theorem cellAc : Try.prog.cellsOf 23 = 2 := by kernel_rfl
theorem cellAcs : Try.prog.cellsOf 24 = 8 := by kernel_rfl
theorem cellPay : Try.prog.cellsOf 70 = 6 := by kernel_rfl
theorem cellPays : Try.prog.cellsOf 27 = 1 := by kernel_rfl
theorem cellHouse : Try.prog.cellsOf 29 = 42 := by kernel_rfl

theorem drop_take {cs : List Value} {o n j : Nat} (hj : j < n) : ((cs.drop o).take n)[j]? = cs[o + j]? := by
  rw [List.getElem?_take_of_lt hj, List.getElem?_drop]
theorem int_of {cs : List Value} {fuel : Nat} {x : DataW H × List MemPlace} (h : DataW.trod enc Try.prog w 0 sp true fuel 3 cs = some x) : IntCell cs 0 := by
  obtain ⟨n, rfl, _, hw⟩ := DataW.trod_int Try.underlying3 h
  exact ⟨n, rfl, hw⟩
theorem ints_of {cs : List Value} {fuel : Nat} {x : DataW H × List MemPlace} (h : DataW.trod enc Try.prog w 0 sp true fuel 25 cs = some x) : cs.length = 4 ∧ ∀ j, j < 4 → IntCell cs j := by
  obtain ⟨xs, m, _, _, hl, hxl, hi⟩ := DataW.trod_array Try.underlying25 h
  rw [cell4i] at hl
  refine ⟨hl, fun j hj => ?_⟩
  have hx := hi j hj
  rw [cell3, List.getElem?_eq_getElem (by omega)] at hx
  obtain ⟨n, hn, hw⟩ := int_of hx
  rw [drop_take (by omega)] at hn
  exact ⟨n, by simpa using hn, hw⟩
theorem intss_of {cs : List Value} {fuel : Nat} {x : DataW H × List MemPlace} (h : DataW.trod enc Try.prog w 0 sp true fuel 26 cs = some x) : cs.length = 16 ∧ ∀ j, j < 16 → IntCell cs j := by
  obtain ⟨xs, m, _, _, hl, hxl, hi⟩ := DataW.trod_array Try.underlying26 h
  rw [cell44] at hl
  refine ⟨hl, fun j hj => ?_⟩
  have hx := hi (j / 4) (by omega)
  rw [cell4i, List.getElem?_eq_getElem (by omega)] at hx
  obtain ⟨n, hn, hw⟩ := (ints_of hx).2 (j % 4) (by omega)
  rw [drop_take (by omega)] at hn
  exact ⟨n, by rw [← hn]; congr 1; omega, hw⟩
theorem acc_of {cs : List Value} {fuel : Nat} {x : DataW H × List MemPlace} (h : DataW.trod enc Try.prog w 0 sp true fuel 23 cs = some x) : cs.length = 2 ∧ ∀ j, j < 2 → IntCell cs j := by
  obtain ⟨xs, m, _, _, hl, hxl, hf⟩ := DataW.trod_struct Try.underlying23 h
  rw [cellAc] at hl
  refine ⟨hl, fun j hj => ?_⟩
  rcases j with _ | _ | j
  · have hx : DataW.trod enc Try.prog w 0 sp true m 3 ((cs.drop 0).take (Try.prog.cellsOf 3)) = xs[0]? := hf 0 _ rfl
    rw [List.getElem?_eq_getElem (by rw [hxl]; decide)] at hx
    obtain ⟨n, hn, hw⟩ := int_of hx
    rw [cell3, drop_take (by omega)] at hn
    exact ⟨n, by simpa using hn, hw⟩
  · have hx : DataW.trod enc Try.prog w 0 sp true m 3 ((cs.drop 1).take (Try.prog.cellsOf 3)) = xs[1]? := hf 1 _ rfl
    rw [List.getElem?_eq_getElem (by rw [hxl]; decide)] at hx
    obtain ⟨n, hn, hw⟩ := int_of hx
    rw [cell3, drop_take (by omega)] at hn
    exact ⟨n, by simpa using hn, hw⟩
  · omega
theorem accs_of {cs : List Value} {fuel : Nat} {x : DataW H × List MemPlace} (h : DataW.trod enc Try.prog w 0 sp true fuel 24 cs = some x) : cs.length = 8 ∧ ∀ j, j < 8 → IntCell cs j := by
  obtain ⟨xs, m, _, _, hl, hxl, hi⟩ := DataW.trod_array Try.underlying24 h
  rw [cellAcs] at hl
  refine ⟨hl, fun j hj => ?_⟩
  have hx := hi (j / 2) (by omega)
  rw [cellAc, List.getElem?_eq_getElem (by omega)] at hx
  obtain ⟨n, hn, hw⟩ := (acc_of hx).2 (j % 2) (by omega)
  rw [drop_take (by omega)] at hn
  exact ⟨n, by rw [← hn]; congr 1; omega, hw⟩
theorem pay_of {cs : List Value} {fuel : Nat} {x : DataW H × List MemPlace} (h : DataW.trod enc Try.prog w 0 sp true fuel 70 cs = some x) : cs.length = 6 ∧ ∀ j, j < 6 → IntCell cs j := by
  obtain ⟨xs, m, _, _, hl, hxl, hf⟩ := DataW.trod_struct Try.underlying70 h
  rw [cellPay] at hl
  refine ⟨hl, fun j hj => ?_⟩
  rcases j with _ | _ | _ | _ | _ | _ | j
  · have hx : DataW.trod enc Try.prog w 0 sp true m 3 ((cs.drop 0).take (Try.prog.cellsOf 3)) = xs[0]? := hf 0 _ rfl
    rw [List.getElem?_eq_getElem (by rw [hxl]; decide)] at hx
    obtain ⟨n, hn, hw⟩ := int_of hx
    rw [cell3, drop_take (by omega)] at hn
    exact ⟨n, by simpa using hn, hw⟩
  · have hx : DataW.trod enc Try.prog w 0 sp true m 3 ((cs.drop 1).take (Try.prog.cellsOf 3)) = xs[1]? := hf 1 _ rfl
    rw [List.getElem?_eq_getElem (by rw [hxl]; decide)] at hx
    obtain ⟨n, hn, hw⟩ := int_of hx
    rw [cell3, drop_take (by omega)] at hn
    exact ⟨n, by simpa using hn, hw⟩
  · have hx : DataW.trod enc Try.prog w 0 sp true m 3 ((cs.drop 2).take (Try.prog.cellsOf 3)) = xs[2]? := hf 2 _ rfl
    rw [List.getElem?_eq_getElem (by rw [hxl]; decide)] at hx
    obtain ⟨n, hn, hw⟩ := int_of hx
    rw [cell3, drop_take (by omega)] at hn
    exact ⟨n, by simpa using hn, hw⟩
  · have hx : DataW.trod enc Try.prog w 0 sp true m 3 ((cs.drop 3).take (Try.prog.cellsOf 3)) = xs[3]? := hf 3 _ rfl
    rw [List.getElem?_eq_getElem (by rw [hxl]; decide)] at hx
    obtain ⟨n, hn, hw⟩ := int_of hx
    rw [cell3, drop_take (by omega)] at hn
    exact ⟨n, by simpa using hn, hw⟩
  · have hx : DataW.trod enc Try.prog w 0 sp true m 3 ((cs.drop 4).take (Try.prog.cellsOf 3)) = xs[4]? := hf 4 _ rfl
    rw [List.getElem?_eq_getElem (by rw [hxl]; decide)] at hx
    obtain ⟨n, hn, hw⟩ := int_of hx
    rw [cell3, drop_take (by omega)] at hn
    exact ⟨n, by simpa using hn, hw⟩
  · have hx : DataW.trod enc Try.prog w 0 sp true m 3 ((cs.drop 5).take (Try.prog.cellsOf 3)) = xs[5]? := hf 5 _ rfl
    rw [List.getElem?_eq_getElem (by rw [hxl]; decide)] at hx
    obtain ⟨n, hn, hw⟩ := int_of hx
    rw [cell3, drop_take (by omega)] at hn
    exact ⟨n, by simpa using hn, hw⟩
  · omega
theorem addr_zero (a : Addr) : (a.add (0 * 6)).add 0 = a := by simp [Addr.add]
theorem addr_eta (a : Addr) (h : a.spot = none) : a = ⟨a.block, a.off, none⟩ := by
  cases a
  simp_all
theorem addr_add (b off n : Nat) : (⟨b, off, none⟩ : Addr).add n = ⟨b, off + n, none⟩ := by unfold Addr.add; split <;> simp_all
theorem spot_none {w : World} {a : Addr} {v : Value} (h : w.cell? a = some v) : a.spot = none := by
  unfold World.cell? at h
  cases hs : a.spot with
  | none => rfl
  | some s => simp [hs] at h; split at h <;> simp_all
/-- What a slice of payments reads as. -/
theorem pays_of {cs : List Value} {fuel : Nat} {x : DataW H × List MemPlace} (h : DataW.trod enc Try.prog w 0 (fun _ => true) true fuel 27 cs = some x)
    (hsz : (x.1.weights Try.prog 27).all (· ≤ reachBytes) = true) : ∃ a l cap, cs = [.slice a l.length cap] ∧ PaysAt w a cap l := by
  rcases open_slice Try.underlying27 h with ⟨rfl, rfl⟩ | ⟨a, len, cap, m, n, D, Pl, rfl, _, hl, hm, hmm, rfl, hi⟩
  · exact ⟨none, [], 0, rfl, ⟨by simp, by simp [maxLen], by simp, fun _ => rfl, fun h => absurd h (by simp)⟩⟩
  · have hmc : m = cap := by simpa using hmm
    subst hmc
    rw [cellPay] at hi
    have hbytes : Try.prog.bytesOf 70 = 48 := by kernel_rfl
    have hroom : m * 48 ≤ reachBytes := by
      have h1 := List.all_eq_true.1 hsz (m * 48) (by
        simp only [DataW.weights, Try.underlying27, hbytes, List.length_map, List.length_range]
        rw [show len + (m - len) = m from by omega]
        simp)
      simpa using h1
    let pay : Nat → Pay := fun i => ⟨intAt ((w.cells? 0 (a.add (i * 6)) 6).getD []).toArray 0, intAt ((w.cells? 0 (a.add (i * 6)) 6).getD []).toArray 1, intAt ((w.cells? 0 (a.add (i * 6)) 6).getD []).toArray 2,
      intAt ((w.cells? 0 (a.add (i * 6)) 6).getD []).toArray 3, intAt ((w.cells? 0 (a.add (i * 6)) 6).getD []).toArray 4, intAt ((w.cells? 0 (a.add (i * 6)) 6).getD []).toArray 5⟩
    have hcell : ∀ i, i < m → ∀ j v, (pc (pay i))[j]? = some v → w.cell? ((a.add (i * 6)).add j) = some v := by
      intro i him j v hv
      obtain ⟨cs', hc, ht⟩ := hi i him
      obtain ⟨_, hcl, hat⟩ := World.cells?_some hc
      obtain ⟨_, hints⟩ := pay_of ht
      have hj : j < 6 := (Array.getElem?_eq_some_iff.1 hv).1
      have hcell := hat j hj
      rw [hcell]
      obtain ⟨k, hk, _⟩ := hints j hj
      rw [hk]
      have hp : pay i = ⟨intAt cs'.toArray 0, intAt cs'.toArray 1, intAt cs'.toArray 2, intAt cs'.toArray 3, intAt cs'.toArray 4, intAt cs'.toArray 5⟩ := by simp only [pay, hc, Option.getD_some]
      rw [hp] at hv
      rw [← hv]
      have hk' : cs'.toArray[j]? = some (.int .i64 k) := by simpa using hk
      rcases j with _ | _ | _ | _ | _ | _ | j
      all_goals first | omega | skip
      all_goals (simp only [pc]; simp [intAt, hk])
    refine ⟨some a, (List.range len).map pay, m, by simp, ⟨by simpa using hl, hm, ?_, by simp, ?_⟩⟩
    · have h1 : len * 48 ≤ m * 48 := Nat.mul_le_mul_right _ hl
      simp only [reachBytes] at hroom
      simp only [List.length_map, List.length_range]
      omega
    · intro h0
      simp only [List.length_map, List.length_range] at h0
      have h00 := hcell 0 (by omega) 0 _ rfl
      rw [addr_zero] at h00
      have ha := addr_eta a (spot_none h00)
      refine ⟨a.block, a.off, by rw [← ha], block_lt_of_cell h00, ?_⟩
      · intro i p hp j v hv
        have hil : i < len := by
          have := (List.getElem?_eq_some_iff.1 hp).1
          simpa using this
        simp only [List.getElem?_map, List.getElem?_range hil, Option.map_some, Option.some.injEq] at hp
        subst hp
        have := hcell i (by omega) j v hv
        rw [Deep.add_add] at this
        rw [ha] at this
        rw [addr_add] at this
        exact this
/-- The house that 42 cells are. -/
def hsOf (cs : Array Value) : Hs where
  has := fun i => intAt cs (i.toNat * 2)
  cr := fun i => intAt cs (i.toNat * 2 + 1)
  sent := fun i k => intAt cs (8 + i.toNat * 4 + k.toNat)
  lim := fun i k => intAt cs (24 + i.toNat * 4 + k.toNat)
  next := intAt cs 41
set_option maxRecDepth 100000 in
theorem hsOf_eq {cs : Array Value} (hsz : cs.size = 42) (s : Value) (h40 : cs[40]? = some s) (hi : ∀ j, j < 42 → j ≠ 40 → ∃ n, cs[j]? = some (.int .i64 n)) : cs = hc (hsOf cs) s := by
  have hi' : ∀ j, j < 42 → j ≠ 40 → cs[j]? = some (.int .i64 (intAt cs j)) := fun j h1 h2 => by
    obtain ⟨n, hn⟩ := hi j h1 h2
    exact intAt_eq hn
  apply Array.ext_getElem?
  intro j
  rcases j with _ | _ | _ | _ | _ | _ | _ | _ | _ | _ | _ | _ | _ | _ | _ | _ | _ | _ | _ | _ | _ | _ | _ | _ | _ | _ | _ | _ | _ | _ | _ | _ | _ | _ | _ | _ | _ | _ | _ | _ | _ | _ | j
  · exact hi' 0 (by omega) (by omega)
  · exact hi' 1 (by omega) (by omega)
  · exact hi' 2 (by omega) (by omega)
  · exact hi' 3 (by omega) (by omega)
  · exact hi' 4 (by omega) (by omega)
  · exact hi' 5 (by omega) (by omega)
  · exact hi' 6 (by omega) (by omega)
  · exact hi' 7 (by omega) (by omega)
  · exact hi' 8 (by omega) (by omega)
  · exact hi' 9 (by omega) (by omega)
  · exact hi' 10 (by omega) (by omega)
  · exact hi' 11 (by omega) (by omega)
  · exact hi' 12 (by omega) (by omega)
  · exact hi' 13 (by omega) (by omega)
  · exact hi' 14 (by omega) (by omega)
  · exact hi' 15 (by omega) (by omega)
  · exact hi' 16 (by omega) (by omega)
  · exact hi' 17 (by omega) (by omega)
  · exact hi' 18 (by omega) (by omega)
  · exact hi' 19 (by omega) (by omega)
  · exact hi' 20 (by omega) (by omega)
  · exact hi' 21 (by omega) (by omega)
  · exact hi' 22 (by omega) (by omega)
  · exact hi' 23 (by omega) (by omega)
  · exact hi' 24 (by omega) (by omega)
  · exact hi' 25 (by omega) (by omega)
  · exact hi' 26 (by omega) (by omega)
  · exact hi' 27 (by omega) (by omega)
  · exact hi' 28 (by omega) (by omega)
  · exact hi' 29 (by omega) (by omega)
  · exact hi' 30 (by omega) (by omega)
  · exact hi' 31 (by omega) (by omega)
  · exact hi' 32 (by omega) (by omega)
  · exact hi' 33 (by omega) (by omega)
  · exact hi' 34 (by omega) (by omega)
  · exact hi' 35 (by omega) (by omega)
  · exact hi' 36 (by omega) (by omega)
  · exact hi' 37 (by omega) (by omega)
  · exact hi' 38 (by omega) (by omega)
  · exact hi' 39 (by omega) (by omega)
  · exact h40
  · exact hi' 41 (by omega) (by omega)
  · have h1 : cs[j + 42]? = none := by simp; omega
    have h2 : (hc (hsOf cs) s)[j + 42]? = none := by simp [hc_size]
    rw [h1, h2]
set_option maxRecDepth 100000 in
/-- An argument that is a house, opened. -/
theorem house_of {base : Nat} {v : Value} {d : DataW H} {ps : List MemPlace} (hv : Value.okWide Try.prog w .any base 29 v) (h : DataW.Trod enc Try.prog w 0 (fun _ => true) true 29 v d ps)
    (hsz : (d.weights Try.prog 29).all (· ≤ reachBytes) = true) : ∃ hs a l cap, v = .agg (hc hs (.slice a l.length cap)) ∧ PaysAt w a cap l := by
  obtain ⟨cs, rfl, hcs⟩ := okWide_struct Try.underlying29 hv
  rw [cellHouse] at hcs
  obtain ⟨fuel, hf0⟩ := h
  obtain ⟨xs, m, _, hx, hl, hxl, hf⟩ := DataW.trod_struct Try.underlying29 hf0
  simp only [Prod.mk.injEq] at hx
  have f0 : DataW.trod enc Try.prog w 0 (fun _ => true) true m 24 ((cs.toList.drop 0).take (Try.prog.cellsOf 24)) = xs[0]? := hf 0 _ rfl
  have f1 : DataW.trod enc Try.prog w 0 (fun _ => true) true m 26 ((cs.toList.drop 8).take (Try.prog.cellsOf 26)) = xs[1]? := hf 1 _ rfl
  have f2 : DataW.trod enc Try.prog w 0 (fun _ => true) true m 26 ((cs.toList.drop 24).take (Try.prog.cellsOf 26)) = xs[2]? := hf 2 _ rfl
  have f3 : DataW.trod enc Try.prog w 0 (fun _ => true) true m 27 ((cs.toList.drop 40).take (Try.prog.cellsOf 27)) = xs[3]? := hf 3 _ rfl
  have f4 : DataW.trod enc Try.prog w 0 (fun _ => true) true m 3 ((cs.toList.drop 41).take (Try.prog.cellsOf 3)) = xs[4]? := hf 4 _ rfl
  have hx5 : xs.length = 5 := hxl
  have hx3 : xs[3]? = some (xs[3]'(by omega)) := List.getElem?_eq_getElem (by omega)
  rw [List.getElem?_eq_getElem (by omega), cellAcs] at f0
  rw [List.getElem?_eq_getElem (by omega), cell44] at f1
  rw [List.getElem?_eq_getElem (by omega), cell44] at f2
  rw [hx3, cellPays] at f3
  rw [List.getElem?_eq_getElem (by omega), cell3] at f4
  have hw3 : ((xs[3]'(by omega)).1.weights Try.prog 27).all (· ≤ reachBytes) = true := by
    refine List.all_eq_true.2 fun n hn => ?_
    refine List.all_eq_true.1 hsz n ?_
    rw [hx.1]
    simp only [DataW.weights, Try.underlying29]
    exact DataW.weights_mem_each (j := 3) rfl (by rw [List.getElem?_map, hx3]; rfl) n hn
  obtain ⟨a, l, cap, hs, hp⟩ := pays_of f3 hw3
  refine ⟨hsOf cs, a, l, cap, ?_, hp⟩
  congr 1
  refine hsOf_eq hcs _ ?_ ?_
  · have h0 : ((cs.toList.drop 40).take 1)[0]? = some (.slice a l.length cap) := by rw [hs]; rfl
    rw [drop_take (by omega)] at h0
    simpa using h0
  · intro j hj hne
    have key : ∀ (o n : Nat), (∀ i, i < n → IntCell ((cs.toList.drop o).take n) i) → o ≤ j → j < o + n → ∃ k, cs[j]? = some (.int .i64 k) := by
      intro o n hI h1 h2
      obtain ⟨k, hk, _⟩ := hI (j - o) (by omega)
      rw [drop_take (by omega), show o + (j - o) = j from by omega] at hk
      exact ⟨k, by simpa using hk⟩
    rcases (by omega : j < 8 ∨ (8 ≤ j ∧ j < 24) ∨ (24 ≤ j ∧ j < 40) ∨ j = 41) with h | h | h | h
    · exact key 0 8 (accs_of f0).2 (by omega) (by omega)
    · exact key 8 16 (intss_of f1).2 (by omega) (by omega)
    · exact key 24 16 (intss_of f2).2 (by omega) (by omega)
    · exact key 41 1 (fun i hi => by obtain rfl : i = 0 := by omega
                                     exact int_of f4) (by omega) (by omega)
end
end Go.Proofs.Ytggfdkkhlokmlab

