/- A region that draws its order, whose operations read old memory and whose calls only make new memory: one walk serves every order. -/
import Derived.Test.YtggfdkkhlokmlaaHouse
import Derived.BigQuiet
namespace Go.Proofs.Ytggfdkkhlokmlaa
open Go.RowKit

/-- A world that meets I (a type of its own, so that simp does not take it apart). -/
structure Wd (I : World → Prop) where
  w : World
  ok : I w
instance wdBelow (W : World) : Nonempty (Wd (Below W.heap.size W)) := ⟨⟨W, Below.refl _ _⟩⟩
section
variable {P : Program} {ops : Array Oper} {a : Act} {o : Oper} {I : World → Prop}
theorem calm_region {id : Nat} {Q : Exit → Act → World → Prop} {w : World} {l : List Oper} (I : World → Prop) (hm : P.follows .mixedOrders = true) (hB : Region.lexB .any l.toArray = true) (hI : I w.drew)
    (h : wpQuiet P l.toArray (fun w' => ∃ x : Wd I, w' = x.w) (fun a' => ∀ w', I w' → Q .normal a' w') l a) : (Code.region id l.toArray true).wp P Q a w :=
  wp_region_quiet (C := fun w' => ∃ x : Wd I, w' = x.w) hm hB ⟨⟨_, hI⟩, rfl⟩ (by
    have : (fun a' => ∀ w', (∃ x : Wd I, w' = x.w) → Q .normal a' w') = (fun a' => ∀ w', I w' → Q .normal a' w') := by
      funext a'
      apply propext
      exact ⟨fun h w' hw => h w' ⟨⟨w', hw⟩, rfl⟩, fun h w' ⟨x, hx⟩ => by subst hx; exact h _ x.ok⟩
    rw [this]
    simpa using h)
theorem calm_call {f : FuncId} {args : Array Value} {x : Wd I} {v : Value} (hI : ∀ w w', I w → Below w.heap.size w w' → I w') (h : Calls P f args x.w fun e w' => e = .returned v ∧ Below x.w.heap.size x.w w') :
    Calls P f args x.w fun e w'' => e = .returned v ∧ ∃ y : Wd I, w'' = y.w :=
  h.mono fun _ w' ⟨he, hb⟩ => ⟨he, ⟨w', hI _ _ x.ok hb⟩, rfl⟩
theorem calm_row {K : Act → Prop} (ty : TypeId) (x : Operand) (ho : o.op = .load ty x)
    (g : Nat) (hx : a.eval x = .pointer (some ⟨g, 0, none⟩)) (t : TypeId) (cs : Array Value) (fr : Nat × Nat) (d : TypeDesc) (hg : ∀ w, I w → w.heap[g]? = some (.cells cs t fr))
    (hu : P.underlying ty = some d) (hd : (match d with | .struct _ | .array _ _ => true | _ => false) = true) (hi : (P.info? ty).map (·.size) = some cs.size)
    (h : K (a.put o.dst (.agg cs))) : o.quiet P a (fun w' => ∃ x : Wd I, w' = x.w) K :=
  ⟨_, fun w ⟨y, hy⟩ => by
    subst hy
    unfold Oper.quietAt execOp
    simp only [ho, hx, Instr.loadAt, Instr.sureAddr, Sem.run_bind, Sem.run_pure, Result.andThen_ok, run_loadVar_row y.w g t ty cs fr d (hg _ y.ok) hu hd hi]
    exact ⟨rfl, rfl⟩, h⟩
theorem calm_mid {K : Act → Prop} (ty : TypeId) (x : Operand) (ho : o.op = .load ty x)
    (g off : Nat) (hx : a.eval x = .pointer (some ⟨g, off, none⟩)) (t : TypeId) (cs part : Array Value) (fr : Nat × Nat) (d : TypeDesc) (hg : ∀ w, I w → w.heap[g]? = some (.cells cs t fr))
    (hu : P.underlying ty = some d) (hd : (match d with | .struct _ | .array _ _ => true | _ => false) = true) (hi : (P.info? ty).map (·.size) = some part.size) (hp : ∀ j v, part[j]? = some v → cs[off + j]? = some v)
    (h : K (a.put o.dst (.agg part))) : o.quiet P a (fun w' => ∃ x : Wd I, w' = x.w) K :=
  ⟨_, fun w ⟨y, hy⟩ => by
    subst hy
    unfold Oper.quietAt execOp
    simp only [ho, hx, Instr.loadAt, Instr.sureAddr, Sem.run_bind, Sem.run_pure, Result.andThen_ok, run_load_mid y.w g off t ty cs part fr d (hg _ y.ok) hu hd hi hp]
    exact ⟨rfl, rfl⟩, h⟩
end
theorem calm_below (W : World) : ∀ w w', Below W.heap.size W w → Below w.heap.size w w' → Below W.heap.size W w' := fun _ _ h h' => h.trans (h'.mono h.size)
theorem calm_start (W : World) : Below W.heap.size W W.drew := (Below.refl _ _).drew
theorem calm_heap {W : World} {b : Nat} {o : Obj} (h : W.heap[b]? = some o) : ∀ w, Below W.heap.size W w → w.heap[b]? = some o := fun _ hb => hkeep hb h
theorem calm_cells {W : World} {b : Nat} {cs : Array Value} {t : TypeId} (h : W.heap[b]? = some (.cells cs t (0, 0))) : ∀ (x : Wd (Below W.heap.size W)) (o : Nat), x.w.cell? ⟨b, o, none⟩ = cs[o]? := fun x o => cells_at (hkeep x.ok h) o
end Go.Proofs.Ytggfdkkhlokmlaa
