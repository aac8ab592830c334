/- Drawn regions: a value that is the same in every world; parts of a block; bank.Next beside boxes. -/
import Derived.Test.YtggfdkkhlokmlabPool
import Derived.Test.YtggfdkkhlokmlabNextF
namespace Go.Proofs.Ytggfdkkhlokmlab
open Go.RowKit
section
variable {P : Program} {ops : Array Oper} {Q : Exit → Act → World → Prop} {md : Region.Mode} {I : World → Prop} {g : Nat}
theorem wpG_takeT {i : Nat} {oi : Oper} {v : Value} (hi : ops[i]? = some oi) (hs : Region.noSelect ops = true) (hQ : ∀ c a w, Q (.panic c) (a.put oi.dst v) w → Q (.panic c) a w) (hgi : g ≠ i) :
  ∀ (fuel : Nat) (listed : Array Bool) (a : Act) (w : World),
   (∀ j oj, ops[j]? = some oj → j ≠ i → listed.getD j true = false → (∀ e ∈ oj.after, Region.binds md e = true → e.on ≠ i) → oi.apart ops oj = true) →
   i ∈ Region.ready md ops listed → YieldsIf P ops (fun _ => True) oi v a → (listed.getD g true = false → I w) →
   wpG P md ops Q I g fuel (listed.setIfInBounds i true) (a.put oi.dst v) w → wpG P md ops Q I g (fuel + 1) listed a w := by
 intro fuel
 induction fuel with
 | zero =>
  intro listed a w _ hr hy hI H
  refine ⟨fun h => (by rw [h] at hr; cases hr), fun j hj => ?_⟩
  by_cases hji : j = i
  ·subst hji; exact hy.wpOp hi trivial ⟨fun hg => hI (by rw [getD_set_ne true (Ne.symm hgi)] at hg; exact hg), H⟩
  ·have := ready_mono hj hji
   rw [H.1] at this
   cases this
 | succ fuel ih =>
  intro listed a w hfree hr hy hI H
  refine ⟨fun h => (by rw [h] at hr; cases hr), fun j hj => ?_⟩
  by_cases hji : j = i
  ·subst hji; exact hy.wpOp hi trivial ⟨fun hg => hI (by rw [getD_set_ne true (Ne.symm hgi)] at hg; exact hg), H⟩
  ·have h1 := H.2 j (ready_mono hj hji)
   obtain ⟨hjun, oj, hoj, hall⟩ := mem_ready.1 hj
   have hiu := (mem_ready.1 hr).1
   have hnot : ∀ e ∈ oj.after, Region.binds md e = true → e.on ≠ i := fun e he hb heq => getD_both hiu (heq ▸ hall e he hb)
   have h2 := wpOp_putIf hoj (hfree j oj hoj hji hjun hnot) (fun cs b => Region.noSelect_spec hs i oi cs b hi) (fun cs b => Region.noSelect_spec hs j oj cs b hoj) hQ hy h1
   have hfree' : ∀ k ok, ops[k]? = some ok → k ≠ i → (listed.setIfInBounds j true).getD k true = false → (∀ e ∈ ok.after, Region.binds md e = true → e.on ≠ i) → oi.apart ops ok = true := fun k ok hk hki hun hno => by
    refine hfree k ok hk hki ?_ hno
    by_cases hjk : j = k
    ·subst hjk; exact hjun
    ·rw [getD_set_ne true hjk] at hun; exact hun
   refine wpOp_mono (fun a' w' h3 => ?_) h2
   have hI' : (listed.setIfInBounds j true).getD g true = false → I w' := fun hg => h3.2.1 (by
    rw [Array.setIfInBounds_comm _ _ (Ne.symm hji), getD_set_ne true (Ne.symm hgi)]; exact hg)
   refine ⟨hI', ih (listed.setIfInBounds j true) a' w' hfree' (ready_mono hr (Ne.symm hji)) h3.1 hI' ?_⟩
   rw [Array.setIfInBounds_comm _ _ hji]
   exact h3.2.2
/-- An operation that yields its value in every world is taken first, whatever waits for it. -/
theorem wpG_putT {i fuel : Nat} (d : Nat) {oi : Oper} {v : Value} {listed : Array Bool} {a : Act} {w : World} (hi : ops[i]? = some oi) (hd : oi.dst = some d) (hs : Region.noSelect ops = true) (hf : Region.free md ops listed i = true) (hr : (Region.ready md ops listed).contains i = true)
  (hgi : (g != i) = true) (hQ : ∀ c a w, Q (.panic c) (a.put (some d) v) w → Q (.panic c) a w) (hI : I w) (hy : YieldsIf P ops (fun _ => True) oi v a)
  (h : wpG P md ops Q I g fuel (listed.setIfInBounds i true) (a.put (some d) v) w) : wpG P md ops Q I g (fuel + 1) listed a w :=
 wpG_takeT hi hs (by rw [hd]; exact hQ) (by simpa using hgi) fuel listed a w (Region.free_spec hi hf) (by simpa using hr) hy (fun _ => hI) (by rw [hd]; exact h)
theorem yields_cells {o : Oper} {a : Act} (ty : TypeId) (x : Operand) (ho : o.op = .load ty x) (hw : Region.wanted o (yielded ops a.tmps) = true) (b off : Nat) (hx : a.eval x = .pointer (some ⟨b, off, none⟩)) (part : Array Value) (d : TypeDesc) (hp : ∀ w, I w → ∀ j v, part[j]? = some v → w.cell? ⟨b, off + j, none⟩ = some v)
  (hu : P.underlying ty = some d) (hd : (match d with | .struct _ | .array _ _ => true | _ => false) = true) (hi : (P.info? ty).map (·.size) = some part.size) : YieldsIf P ops I o (.agg part) a :=
 .inl ⟨hw, fun w hI => by
  have hr : (loadVar ty ⟨b, off, none⟩).run P w = .ok (.agg part) w := by
   have hl : (loadCells ⟨b, off, none⟩ part.toList.length).run P w = .ok part.toList.toArray w :=
    run_loadCells_list (P := P) w ⟨b, off, none⟩ part.toList (fun j v hv => by
     have hadd : (⟨b, off, none⟩ : Addr).add j = ⟨b, off + j, none⟩ := by unfold Addr.add; split <;> simp_all
     rw [hadd]
     exact hp w hI j v (by simpa using hv))
   cases hq : P.info? ty with
   | none => simp [hq] at hi
   | some i =>
    have hs : i.size = part.size := by simpa [hq] using hi
    have hagg : (isAgg ty).run P w = .ok true w := by
     unfold isAgg
     rw [Sem.run_bind, run_underlying hu w]
     cases d <;> simp_all
    simp only [Array.length_toList, Array.toArray_toList] at hl
    simp [loadVar, Sem.run_bind, hagg, sizeOf, typeInfo, hq, hs, hl]
  unfold execOp
  simp only [ho, hx, Instr.loadAt, Instr.sureAddr, Sem.run_bind, Sem.run_pure, Result.andThen_ok, hr]⟩
end
/-- Behind the exported bank.Next, called beside boxes. -/
theorem NextsPost.res {W w w' : World} {a0 : Option Addr} {X : Nx} {a : Option Addr} {cap : Nat} {v : Value} {bs : List (Nat × Obj)} (hPl : Pool W w bs) (ha0 : 0 < X.l.length → X.code ≠ 0 → ∀ b off s, a0 = some ⟨b, off, s⟩ → b < W.heap.size)
  (hp : PaysAt w' a cap X.l) (ho : OwnInts w' w.heap.size v (nats X.done)) (hs : 0 < X.l.length → ∀ b off s, a = some ⟨b, off, s⟩ → ((a = a0 ∧ X.code ≠ 0) ∨ w.heap.size ≤ b) ∧ v.ownBlock ≠ some b) (hB : Below w.heap.size w w') :
  Pool W w' bs ∧ Res (fun _ => X.code ≠ 0) W w' bs X a cap v := by
 refine ⟨hPl.below hB, hp, ho.mono hPl.low.size, fun hl b off s e => ⟨?_, (hs hl b off s e).2, fun k hk => ?_⟩, fun k hk e => ?_⟩
 ·rcases (hs hl b off s e).1 with h | h
  ·exact .inl h.2
  ·exact .inr (Nat.le_trans hPl.low.size h)
 ·have h2 := hlt (hPl.box k hk).2
  have h3 := (hPl.box k hk).1
  rcases (hs hl b off s e).1 with h | h
  ·have := ha0 hl h.2 b off s (by rw [← h.1]; exact e)
   omega
  ·omega
 ·have := ho.own e
  have := hlt (hPl.box k hk).2
  omega
end Go.Proofs.Ytggfdkkhlokmlab


