/- A region that draws its order: loads beside calls that make new memory; behind the operation g, in a forced order, it may write. -/
import Derived.OrdersHeld
import Derived.Test.YtggfdkkhlokmlaaCalm
namespace Go.Proofs.Ytggfdkkhlokmlaa
open Go.RowKit
section
variable {P : Program} {ops : Array Oper} {Q : Exit → Act → World → Prop} {md : Region.Mode} {I : World → Prop} {g : Nat}
/-- Whatever order is picked from here on; till g has come up, I holds. -/
def wpG (P : Program) (md : Region.Mode) (ops : Array Oper) (Q : Exit → Act → World → Prop) (I : World → Prop) (g : Nat) : Nat → Array Bool → Act → World → Prop
  | 0, listed, a, w => Region.ready md ops listed = [] ∧ Q .normal a w
  | fuel + 1, listed, a, w =>
    (Region.ready md ops listed = [] → Q .normal a w) ∧
    ∀ i ∈ Region.ready md ops listed, wpOp P ops Q i (fun a' w' => ((listed.setIfInBounds i true).getD g true = false → I w') ∧ wpG P md ops Q I g fuel (listed.setIfInBounds i true) a' w') a w
theorem wpG_any : ∀ (fuel : Nat) (listed : Array Bool) (a : Act) (w : World), wpG P md ops Q I g fuel listed a w → wpAny P md ops Q fuel listed a w
  | 0, _, _, _, h => h
  | fuel + 1, _, _, _, h => ⟨h.1, fun i hi => wpOp_mono (fun a' w' h' => wpG_any fuel _ a' w' h'.2) (h.2 i hi)⟩
/-- k waits for j. -/
def depB (md : Region.Mode) (ops : Array Oper) (k j : Nat) : Bool := match ops[k]? with
  | some o => o.after.any fun e => Region.binds md e && e.on == j
  | none => false
/-- k waits for the first of c, that for the next, and so on. -/
def chainB (md : Region.Mode) (ops : Array Oper) : Nat → List Nat → Bool
  | _, [] => true
  | k, j :: r => depB md ops k j && chainB md ops j r
/-- Whatever is listed: so is all that it waits for. -/
def Closed (md : Region.Mode) (ops : Array Oper) (listed : Array Bool) : Prop := ∀ k j, depB md ops k j = true → listed.getD k false = true → listed.getD j false = true
theorem ready_dep {listed : Array Bool} {k j : Nat} (hk : k ∈ Region.ready md ops listed) (hd : depB md ops k j = true) : listed.getD j false = true := by
  obtain ⟨_, o, ho, hall⟩ := mem_ready.1 hk
  simp only [depB, ho, Array.any_eq_true', Bool.and_eq_true, beq_iff_eq] at hd
  obtain ⟨e, he, hb, rfl⟩ := hd
  exact hall e he hb
theorem Closed.set {listed : Array Bool} (h : Closed md ops listed) {k : Nat} (hk : k ∈ Region.ready md ops listed) : Closed md ops (listed.setIfInBounds k true) := by
  intro k' j hd hl
  refine getD_set_true ?_
  by_cases e : k = k'
  · subst e; exact ready_dep hk hd
  · rw [getD_set_ne false e] at hl; exact h k' j hd hl
theorem closed_start (n : Nat) : Closed md ops (Array.replicate n false) := by
  intro k j _ hl
  exfalso
  by_cases hk : k < n
  · simp [hk] at hl
  · simp [hk] at hl
theorem chain_listed {listed : Array Bool} (hc : Closed md ops listed) : ∀ (c : List Nat) (k : Nat), chainB md ops k c = true → (∀ j, depB md ops k j = true → listed.getD j false = true) → ∀ i ∈ c, listed.getD i false = true
  | [], _, _, _, i, hi => by cases hi
  | j :: r, k, hch, hk, i, hi => by
    simp only [chainB, Bool.and_eq_true] at hch
    have hj := hk j hch.1
    rcases List.mem_cons.1 hi with rfl | hi
    · exact hj
    · exact chain_listed hc r j hch.2 (fun j' hd => hc j j' hd hj) i hi
theorem getD_both {listed : Array Bool} {i : Nat} (h1 : listed.getD i true = false) (h2 : listed.getD i false = true) : False := by
  by_cases hi : i < listed.size
  · simp [hi] at h1 h2; rw [h1] at h2; cases h2
  · simp [hi] at h1
theorem wpG_take {i : Nat} {oi : Oper} {v : Value} (hi : ops[i]? = some oi) (hs : Region.noSelect ops = true) (hQ : ∀ c a w, Q (.panic c) (a.put oi.dst v) w → Q (.panic c) a w) {c : List Nat} (hch : chainB md ops g c = true) (hic : i ∈ c) (hgi : g ≠ i) :
    ∀ (fuel : Nat) (listed : Array Bool) (a : Act) (w : World), g < listed.size →
      (∀ j oj, ops[j]? = some oj → j ≠ i → listed.getD j true = false → (∀ e ∈ oj.after, Region.binds md e = true → e.on ≠ i) → oi.apart ops oj = true) →
      i ∈ Region.ready md ops listed → Closed md ops listed → YieldsIf P ops I oi v a → I w →
      wpG P md ops Q I g fuel (listed.setIfInBounds i true) (a.put oi.dst v) w → wpG P md ops Q I g (fuel + 1) listed a w := by
  intro fuel
  induction fuel with
  | zero =>
    intro listed a w _ _ hr _ hy hI H
    refine ⟨fun h => (by rw [h] at hr; cases hr), fun j hj => ?_⟩
    by_cases hji : j = i
    · subst hji; exact hy.wpOp hi hI ⟨fun _ => hI, H⟩
    · have := ready_mono hj hji
      rw [H.1] at this
      cases this
  | succ fuel ih =>
    intro listed a w hgs hfree hr hc hy hI H
    refine ⟨fun h => (by rw [h] at hr; cases hr), fun j hj => ?_⟩
    by_cases hji : j = i
    · subst hji; exact hy.wpOp hi hI ⟨fun _ => hI, H⟩
    · have h1 := H.2 j (ready_mono hj hji)
      obtain ⟨hjun, oj, hoj, hall⟩ := mem_ready.1 hj
      have hiu := (mem_ready.1 hr).1
      have hnot : ∀ e ∈ oj.after, Region.binds md e = true → e.on ≠ i := fun e he hb heq => getD_both hiu (heq ▸ hall e he hb)
      have hjg : j ≠ g := by
        rintro rfl
        exact getD_both hiu (chain_listed hc c j hch (fun j' hd => ready_dep hj hd) i hic)
      have hgu : listed.getD g true = false := by
        cases hb : listed.getD g true with
        | false => rfl
        | true =>
          exfalso
          have h2 : listed.getD g false = true := by simpa [hgs] using hb
          exact getD_both hiu (chain_listed hc c g hch (fun j' hd => hc g j' hd h2) i hic)
      have h2 := wpOp_putIf hoj (hfree j oj hoj hji hjun hnot) (fun cs b => Region.noSelect_spec hs i oi cs b hi) (fun cs b => Region.noSelect_spec hs j oj cs b hoj) hQ hy h1
      have hfree' : ∀ k ok, ops[k]? = some ok → k ≠ i → (listed.setIfInBounds j true).getD k true = false → (∀ e ∈ ok.after, Region.binds md e = true → e.on ≠ i) → oi.apart ops ok = true := fun k ok hk hki hun hno => by
        refine hfree k ok hk hki ?_ hno
        by_cases hjk : j = k
        · subst hjk; exact hjun
        · rw [getD_set_ne true hjk] at hun; exact hun
      refine wpOp_mono (fun a' w' h3 => ?_) h2
      have hI' : I w' := h3.2.1 (by rw [getD_set_ne true hjg, getD_set_ne true (Ne.symm hgi)]; exact hgu)
      refine ⟨fun _ => hI', ih (listed.setIfInBounds j true) a' w' (by simpa using hgs) hfree' (ready_mono hr (Ne.symm hji)) (hc.set hj) h3.1 hI' ?_⟩
      rw [Array.setIfInBounds_comm _ _ hji]
      exact h3.2.2
/-- What stands behind one operation. -/
def stepQ (Q : Exit → Act → World → Prop) (K : Act → World → Prop) : Exit → Act → World → Prop
  | .normal, a, w => K a w
  | e, a, w => Q e a w
theorem wpOp_of_list {i : Nat} {o : Oper} {K : Act → World → Prop} {a : Act} {w : World} (ho : ops[i]? = some o) (h : wpList P ops (stepQ Q K) [o] a w) : wpOp P ops Q i K a w := by
  unfold wpOp
  simp only [ho]
  unfold wpList at h
  split
  · rename_i hw
    simp only [hw, if_true] at h
    rcases h with h | ⟨h1, a', w', h2⟩
    · refine .inl ?_
      unfold Oper.wp at *
      generalize (execOp a.eval o).run P w = r at *
      cases r with
      | ok n w' =>
        cases n <;> simp only [Oper.upon] at h ⊢
        case value => exact h
        case skip => exact h
        case defer => exact h
        case enter f args =>
          refine Calls.mono h fun e w'' he => ?_
          cases e with
          | returned u => exact he
          | panicked c => exact he
          | outgrown => obtain ⟨a, w, h⟩ := he; exact ⟨a, w, h⟩
        case row row args => exact Rows.mono h fun u w'' he => he
      | halt x w' =>
        cases x <;> simp only [Oper.upon] at h ⊢
        case panic u => exact h
    · exact .inr ⟨h1, a', w', h2⟩
  · rename_i hw
    simp only [hw, Bool.false_eq_true, if_false] at h
    exact h
theorem wpG_one {i fuel : Nat} {o : Oper} {listed : Array Bool} {a : Act} {w : World} (hr : Region.ready md ops listed = [i]) (ho : ops[i]? = some o)
    (h : wpList P ops (stepQ Q fun a' w' => I w' ∧ wpG P md ops Q I g fuel (listed.setIfInBounds i true) a' w') [o] a w) : wpG P md ops Q I g (fuel + 1) listed a w :=
  ⟨fun h0 => (by rw [h0] at hr; cases hr), fun j hj => by
    rw [hr] at hj
    obtain rfl := List.mem_singleton.1 hj
    exact wpOp_mono (fun a' w' h => ⟨fun _ => h.1, h.2⟩) (wpOp_of_list ho h)⟩
theorem wpG_two {i j fuel : Nat} {o u : Oper} {listed : Array Bool} {a : Act} {w : World} (hr : Region.ready md ops listed = [i, j]) (ho : ops[i]? = some o) (hu : ops[j]? = some u)
    (h1 : wpList P ops (stepQ Q fun a' w' => I w' ∧ wpG P md ops Q I g fuel (listed.setIfInBounds i true) a' w') [o] a w)
    (h2 : wpList P ops (stepQ Q fun a' w' => I w' ∧ wpG P md ops Q I g fuel (listed.setIfInBounds j true) a' w') [u] a w) : wpG P md ops Q I g (fuel + 1) listed a w :=
  ⟨fun h0 => (by rw [h0] at hr; cases hr), fun k hk => by
    rw [hr] at hk
    rcases List.mem_cons.1 hk with rfl | hk
    · exact wpOp_mono (fun a' w' h => ⟨fun _ => h.1, h.2⟩) (wpOp_of_list ho h1)
    · obtain rfl := List.mem_singleton.1 hk
      exact wpOp_mono (fun a' w' h => ⟨fun _ => h.1, h.2⟩) (wpOp_of_list hu h2)⟩
/-- The rest comes up in one order alone. -/
def tailB (md : Region.Mode) (ops : Array Oper) (g : Nat) : List Nat → Array Bool → Bool
  | [], listed => (Region.ready md ops listed).isEmpty
  | i :: is, listed => Region.ready md ops listed == [i] && (listed.setIfInBounds i true).getD g true && tailB md ops g is (listed.setIfInBounds i true)
theorem wpG_tail : ∀ (is : List Nat) (os : List Oper) (listed : Array Bool) (a : Act) (w : World), tailB md ops g is listed = true → is.map (ops[·]?) = os.map some → wpList P ops Q os a w → wpG P md ops Q I g is.length listed a w
  | [], [], listed, a, w, ht, _, h => ⟨by simpa [tailB] using ht, h⟩
  | [], _ :: _, _, _, _, _, ho, _ => by simp at ho
  | _ :: _, [], _, _, _, _, ho, _ => by simp at ho
  | i :: is, o :: os, listed, a, w, ht, ho, h => by
    simp only [tailB, Bool.and_eq_true, beq_iff_eq] at ht
    obtain ⟨⟨hr, hg⟩, ht⟩ := ht
    simp only [List.map_cons, List.cons.injEq] at ho
    refine ⟨fun h0 => (by rw [h0] at hr; cases hr), fun j hj => ?_⟩
    rw [hr] at hj
    obtain rfl := List.mem_singleton.1 hj
    have h1 : wpOp P ops Q j (wpList P ops Q os) a w := by
      unfold wpOp
      simp only [ho.1]
      exact h
    exact wpOp_mono (fun a' w' h' => ⟨fun e => (by rw [hg] at e; cases e), wpG_tail is os _ a' w' ht ho.2 h'⟩) h1
/-- The start. -/
theorem wpG_start {id : Nat} {l : List Oper} {a : Act} {w : World} (I : World → Prop) (g : Nat) (hm : P.follows .mixedOrders = true) (h : wpG P .any l.toArray Q I g l.length (Array.replicate l.length false) a w.drew) : (Code.region id l.toArray true).wp P Q a w :=
  wp_region_any hm (wpG_any _ _ _ _ (by simpa using h))
def closedB (md : Region.Mode) (ops : Array Oper) (listed : Array Bool) : Bool := (List.range ops.size).all fun k => !listed.getD k false || (match ops[k]? with
  | some o => o.after.all fun e => !Region.binds md e || listed.getD e.on false
  | none => true)
theorem closed_of {listed : Array Bool} (h : closedB md ops listed = true) : Closed md ops listed := by
  intro k j hd hl
  unfold depB at hd
  cases ho : ops[k]? with
  | none => rw [ho] at hd; cases hd
  | some o =>
    simp only [ho, Array.any_eq_true', Bool.and_eq_true, beq_iff_eq] at hd
    obtain ⟨e, he, hb, rfl⟩ := hd
    have hk := (Array.getElem?_eq_some_iff.1 ho).1
    have h1 := List.all_eq_true.1 h k (List.mem_range.2 hk)
    simp only [ho, hl, Bool.not_true, Bool.false_or] at h1
    have h2 := Array.all_eq_true_iff_forall_mem.1 h1 e he
    simpa [hb] using h2
/-- An operation that yields its value in every world that meets I is taken first. -/
theorem wpG_first {i fuel : Nat} {oi : Oper} {v : Value} {listed : Array Bool} {a : Act} {w : World} (c : List Nat) (hi : ops[i]? = some oi) (hs : Region.noSelect ops = true) (hf : Region.free md ops listed i = true) (hr : (Region.ready md ops listed).contains i = true)
    (hch : (chainB md ops g c && c.contains i && (g != i) && closedB md ops listed && decide (g < listed.size)) = true) (hQ : ∀ c a w, Q (.panic c) (a.put oi.dst v) w → Q (.panic c) a w) (hI : I w) (hy : YieldsIf P ops I oi v a)
    (h : wpG P md ops Q I g fuel (listed.setIfInBounds i true) (a.put oi.dst v) w) : wpG P md ops Q I g (fuel + 1) listed a w := by
  simp only [Bool.and_eq_true, bne_iff_ne, ne_eq, decide_eq_true_eq] at hch
  obtain ⟨⟨⟨⟨h1, h2⟩, h3⟩, h4⟩, h5⟩ := hch
  exact wpG_take hi hs hQ h1 (by simpa using h2) h3 fuel listed a w h5 (Region.free_spec hi hf) (by simpa using hr) (closed_of h4) hy hI h
theorem yields_row {o : Oper} {a : Act} (ty : TypeId) (x : Operand) (ho : o.op = .load ty x) (hw : Region.wanted o (yielded ops a.tmps) = true) (b : Nat) (hx : a.eval x = .pointer (some ⟨b, 0, none⟩)) (t : TypeId) (cs : Array Value) (fr : Nat × Nat) (d : TypeDesc) (hg : ∀ w, I w → w.heap[b]? = some (.cells cs t fr))
    (hu : P.underlying ty = some d) (hd : (match d with | .struct _ | .array _ _ => true | _ => false) = true) (hi : (P.info? ty).map (·.size) = some cs.size) : YieldsIf P ops I o (.agg cs) a :=
  .inl ⟨hw, fun w hI => by
    unfold execOp
    simp only [ho, hx, Instr.loadAt, Instr.sureAddr, Sem.run_bind, Sem.run_pure, Result.andThen_ok, run_loadVar_row w b t ty cs fr d (hg w hI) hu hd hi]⟩
theorem wpG_drop {l : List Oper} (n : Nat) {k : Nat} {listed : Array Bool} {a : Act} {w : World} (hk : k = l.length - n) (ht : tailB md l.toArray g (List.range' n (l.length - n)) listed = true) (h : wpList P l.toArray Q (l.drop n) a w) : wpG P md l.toArray Q I g k listed a w := by
  have h1 := wpG_tail (I := I) (List.range' n (l.length - n)) (l.drop n) listed a w ht (by
    apply List.ext_getElem?
    intro j
    by_cases hj : j < l.length - n
    · simp [hj]
    · rw [List.getElem?_eq_none (by simp; omega), List.getElem?_eq_none (by simp; omega)]) h
  rw [List.length_range'] at h1
  rw [hk]; exact h1
end
end Go.Proofs.Ytggfdkkhlokmlaa
