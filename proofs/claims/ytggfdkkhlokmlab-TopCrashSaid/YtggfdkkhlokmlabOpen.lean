/- A law's frame: its arguments opened to a house, ints, strings; and shut again. -/
import Derived.Test.YtggfdkkhlokmlabRows
import Derived.ProofKit
import Derived.SizedLaws
import Derived.OpenShut
import Derived.Deep.Slices
import Derived.Test.YtggfdkkhlokmlabCLed
namespace Go.Proofs.Ytggfdkkhlokmlab
open Go.ChangeShapes Go.WideShapes Go.ChangeAt Go.RowKit Go.Deep

theorem own : ownKnob Try.prog.godebug = none := by kernel_rfl
theorem laidOut : laidOutB Try.prog = true := by kernel_rfl

section
variable {H : Type} {enc : TypeId × Value → H}
theorem trodAll_stays {W W' : World} (hb : Below W.heap.size W W') {sp : Nat → Bool} : ∀ (ts : List TypeId) (vs : List Value) (ds : List (DataW H)) (ps : List MemPlace),
  (∀ t ∈ ts, Try.prog.readableRec t = true ∧ t < Try.prog.types.size) → (∀ x ∈ ps, x.block < W.heap.size) → (∀ x ∈ ps, sp x.block = true) →
  DataW.TrodAll enc Try.prog W 0 (fun _ => true) true ts vs ds ps → DataW.TrodAll enc Try.prog W' 0 sp true ts vs ds ps
 | [], [], [], _, _, _, _, h => h
 | t :: ts, v :: vs, d :: ds, ps, ht, hl, hs, h => by
  obtain ⟨p, q, h1, h2, rfl⟩ := h
  refine ⟨p, q, ?_, trodAll_stays hb ts vs ds q (fun t h => ht t (by simp [h])) (fun x hx => hl x (by simp [hx])) (fun x hx => hs x (by simp [hx])) h2, rfl⟩
  exact WideElems.Trod_stays laidOut (ht t (by simp)).1 (ht t (by simp)).2 h1 (fun x hx => hb.same (hl x (by simp [hx]))) (fun x hx => hs x (by simp [hx]))
 | [], [], _ :: _, _, _, _, _, h => h.elim
 | [], _ :: _, _, _, _, _, _, h => h.elim
 | _ :: _, [], _, _, _, _, _, h => h.elim
 | _ :: _, _ :: _, [], _, _, _, _, h => h.elim

/-- A law that answers true and leaves all that was there as it was meets its row. -/
theorem law_post {f : Func} {s : ChangeSpec} {W W' : World} {args : Array Value} {ds gs : List (DataW H)} {before : List MemPlace} (hv : s.vars = [])
  (hW : DataW.Whole enc Try.prog f.params.toList s.vars false W args.toList ds gs before) (hread0 : (f.params.toList.all fun t => Try.prog.readableRec t && decide (t < Try.prog.types.size)) = true) (hrt : f.resultTypes = #[4])
  (hres : (s.fn H (ds ++ gs)).results = [.lit (.bool true)]) (hargs : (s.fn H (ds ++ gs)).args = ds) (hvars : (s.fn H (ds ++ gs)).vars = []) (hb : Below W.heap.size W W') : s.post enc Try.prog f false true false false W args (.bool true) W' := by
 have hlt : ∀ p ∈ before, p.block < W.heap.size := fun p hp => hW.lt p hp
 have hread : ∀ t ∈ f.params.toList, Try.prog.readableRec t = true ∧ t < Try.prog.types.size := fun t ht => by simpa using List.all_eq_true.1 hread0 t ht
 have hW0 := hW
 obtain ⟨p, q, hA, hV, rfl, _, _⟩ := hW0
 have hq : q = [] := by
  rw [hv] at hV
  cases gs with
  | nil => exact hV
  | cons g gs => exact hV.elim
 subst hq
 refine ⟨ds, gs, _, [], p, [], hW, ?_, ?_, ?_, World.keptBut_mono (fun x hx => ⟨hx, .inr (.inl (by simpa using hx))⟩) (hb.frame (· ∈ p ++ [])), fun h => by cases h⟩
 ·rw [hres, hrt]
  exact trodAll_mk1 (shut_bool Try.underlying4 true)
 ·rw [hargs]
  exact trodAll_stays hb _ _ _ _ hread (fun x hx => hlt x (by simp [hx])) (fun x hx => by simpa using hlt x (by simp [hx])) hA
 ·rw [hv, hvars]
  rfl

/-! ### a house, opened -/
/-- The int in a cell. -/
def intAt (cs : Array Value) (j : Nat) : Int := match cs[j]? with | some (.int _ n) => n | _ => 0
/-- A cell that holds an int of 64 bits. -/
def IntCell (cs : List Value) (j : Nat) : Prop := ∃ n, cs[j]? = some (.int .i64 n) ∧ (Lit.int .i64 n).wf = true

variable {w : World} {sp : Nat → Bool}
theorem cell3 : Try.prog.cellsOf 3 = 1 := by kernel_rfl
theorem drop_take {cs : List Value} {o n j : Nat} (hj : j < n) : ((cs.drop o).take n)[j]? = cs[o + j]? := by
 rw [List.getElem?_take_of_lt hj, List.getElem?_drop]
theorem int_of {cs : List Value} {fuel : Nat} {x : DataW H × List MemPlace} (h : DataW.trod enc Try.prog w 0 sp true fuel 3 cs = some x) : IntCell cs 0 := by
 obtain ⟨n, rfl, _, hw⟩ := DataW.trod_int Try.underlying3 h
 exact ⟨n, rfl, hw⟩
theorem addr_eta (a : Addr) (h : a.spot = none) : a = ⟨a.block, a.off, none⟩ := by
 cases a
 simp_all
theorem addr_add (b off n : Nat) : (⟨b, off, none⟩ : Addr).add n = ⟨b, off + n, none⟩ := by unfold Addr.add; split <;> simp_all
theorem spot_none {w : World} {a : Addr} {v : Value} (h : w.cell? a = some v) : a.spot = none := by
 unfold World.cell? at h
 cases hs : a.spot with
 | none => rfl
 | some s => simp [hs] at h; split at h <;> simp_all
end
end Go.Proofs.Ytggfdkkhlokmlab


