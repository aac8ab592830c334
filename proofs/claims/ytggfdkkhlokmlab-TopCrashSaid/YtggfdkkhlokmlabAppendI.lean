/- append of ints out of another row of the call's own: the block of what it hands back is the old one or a new one. -/
import Derived.Test.YtggfdkkhlokmlabCMem
namespace Go.Proofs.Ytggfdkkhlokmlab
open Go.RowKit
theorem grown_refl (w : World) (x : Option Nat) : w.grownBy w x := ⟨rfl, rfl, rfl, Nat.le_refl _, fun _ _ _ => rfl⟩
theorem wpList_append_ints {ops : Array Oper} {rest : List Oper} {o : Oper} {a : Act} {Q : Exit → Act → World → Prop} {w : World} (hgd : o.guard = none) (s x : Operand)
  (ho : o.op = .call { callee := .builtin .append, args := #[s, x], argTypes := #[42, 42] }) (base base2 : Nat) (v v2 : Value) (l k : List Int) (hs : a.eval s = v) (hx : a.eval x = v2)
  (hv : OwnInts w base v l) (hv2 : OwnInts w base2 v2 k) (hbase : base ≤ w.heap.size) (hsm : (l.length + k.length) * 8 ≤ 140737488355328)
  (h : ∀ v' w', OwnInts w' base v' (l ++ k) → w.grownBy w' v.ownBlock → (∀ x, v'.ownBlock = some x → v.ownBlock = some x ∨ w.heap.size ≤ x) → wpList Try.prog ops Q rest (a.put o.dst v') w') : wpList Try.prog ops Q (o :: rest) a w :=
 wpList_plain hgd fun _ hK => by
  obtain ⟨i, z, hi, hz, hs1, hby, hzs⟩ := info3z
  have hr : ∃ v' w', (Builtin.append_ #[42, 42] o.type #[v, v2]).run Try.prog w = .ok v' w' ∧ OwnInts w' base v' (l ++ k) ∧ w.grownBy w' v.ownBlock ∧ (∀ x, v'.ownBlock = some x → v.ownBlock = some x ∨ w.heap.size ≤ x) := by
   obtain ⟨⟨hlen, hc⟩, hroom⟩ := hv2
   rcases hc with ⟨rfl, h0⟩ | ⟨g, cap, cur, rfl, hb', hg, hn, hcm, hcs, htake⟩
   ·obtain rfl : k = [] := List.length_eq_zero_iff.1 h0
    exact ⟨v, w, run_append_owned_none (P := Try.prog) w base 42 _ 3 i 1 Try.underlying42 hi v l.length (icells l) hv.1, by simpa using hv, grown_refl w _, fun x hx => .inl hx⟩
   ·have hone : ∀ u ∈ icells k, u.oneCell' = true := fun u hu => by
     obtain ⟨n, _, rfl⟩ := List.mem_map.1 hu; rfl
    have hcell : ∀ j u, (icells k)[j]? = some u → w.cell? ((⟨g, 0, none⟩ : Addr).add j) = some u := fun j u hu => by
     have hadd : (⟨g, 0, none⟩ : Addr).add j = ⟨g, 0 + j, none⟩ := by unfold Addr.add; split <;> simp_all
     have hlt := (List.getElem?_eq_some_iff.1 hu).1
     have hlt' : j < k.length := by simpa [icells] using hlt
     rw [← htake, List.getElem?_take_of_lt (by omega)] at hu
     rw [hadd, Nat.zero_add, cells_at hg]
     simpa using hu
    obtain ⟨v', w', hr, h2, h3, h4⟩ := run_append_fresh (P := Try.prog) w base 42 o.type 3 i z 1 8 Try.underlying42 hi hz hs1 hby hzs (by decide) v l.length (icells l) hv.1 ⟨g, 0, none⟩ k.length cap (icells k) (by simp [icells]) hcell hone (by simp only [maxLen]; omega) hsm hbase
    refine ⟨v', w', hr, ⟨?_, by simp; omega⟩, h3, h4⟩
    rw [show icells (l ++ k) = icells l ++ icells k by simp [icells], List.length_append]
    exact h2
  obtain ⟨v', w', hr, h2, h3, h4⟩ := hr
  unfold Oper.wp execOp
  simp only [ho, resolve, invoke, builtin, Sem.run_bind, Sem.run_pure, Result.andThen_ok, List.map_toArray, List.map_cons, List.map_nil, hs, hx, hr]
  exact hK _ _ (h v' w' h2 h3 h4)
end Go.Proofs.Ytggfdkkhlokmlab


