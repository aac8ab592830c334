/- The replies of a run, and how they lie in memory. -/
import Derived.Test.YtggfdkkhlokmlabPlayMath
import Derived.Test.YtggfdkkhlokmlabAppendI
import Derived.Test.YtggfdkkhlokmlabBankMore
import Derived.Test.YtggfdkkhlokmlabCBk1
namespace Go.Proofs.Ytggfdkkhlokmlab
open Go.RowKit
/-- The replies to acts, one behind the other. -/
noncomputable def Rl (l : List Deed) (k : Nat) : List Rp := (List.range k).filterMap fun i => (l[i]?).map (Rs l i)
theorem rl_succ {l : List Deed} {k : Nat} {d : Deed} (h : l[k]? = some d) : Rl l (k + 1) = Rl l k ++ [Rs l k d] := by
 simp [Rl, List.range_succ, List.filterMap_append, h]
theorem rl_length {l : List Deed} : ∀ {k : Nat}, k ≤ l.length → (Rl l k).length = k
 | 0, _ => rfl
 | k + 1, h => by
  obtain ⟨d, hd⟩ : ∃ d, l[k]? = some d := ⟨l[k], List.getElem?_eq_getElem (by omega)⟩
  rw [rl_succ hd, List.length_append, rl_length (by omega)]; rfl
theorem rl_get {l : List Deed} {i : Nat} {d : Deed} (hd : l[i]? = some d) : ∀ {k : Nat}, i < k → k ≤ l.length → (Rl l k)[i]? = some (Rs l i d)
 | 0, h, _ => by omega
 | k + 1, h, hk => by
  obtain ⟨e, he⟩ : ∃ e, l[k]? = some e := ⟨l[k], List.getElem?_eq_getElem (by omega)⟩
  rw [rl_succ he]
  by_cases hik : i < k
  ·rw [List.getElem?_append_left (by rw [rl_length (by omega)]; exact hik)]
   exact rl_get hd hik (by omega)
  ·obtain rfl : i = k := by omega
   rw [hd] at he; cases he
   rw [List.getElem?_append_right (by rw [rl_length (by omega)]; exact Nat.le_refl _), rl_length (by omega)]
   simp
/-- The cells of replies, each with the value of its list. -/
def flatR (zs : List (Rp × Value)) : List Value := zs.flatMap fun z => (rc z.1.code z.1.n z.2).toList
theorem flatR_get : ∀ (l : List (Rp × Value)) (i : Nat) (p : Rp × Value), l[i]? = some p → ∀ (j : Nat) (v : Value), (rc p.1.code p.1.n p.2)[j]? = some v → (flatR l)[i * 3 + j]? = some v
 | [], i, p, h, _, _, _ => by simp at h
 | q :: l, 0, p, h, j, v, hv => by
  simp at h
  subst h
  have hj : j < 3 := (Array.getElem?_eq_some_iff.1 hv).1
  simp only [flatR, List.flatMap_cons, Nat.zero_mul, Nat.zero_add]
  rw [List.getElem?_append_left (by exact hj)]
  simpa using hv
 | q :: l, i + 1, p, h, j, v, hv => by
  have ih := flatR_get l i p (by simpa using h) j v hv
  simp only [flatR, List.flatMap_cons]
  rw [List.getElem?_append_right (by show 3 ≤ _; omega)]
  have e : (i + 1) * 3 + j - (rc q.1.code q.1.n q.2).toList.length = i * 3 + j := by show (i + 1) * 3 + j - 3 = _; omega
  rw [e]
  exact ih
theorem flatR_snoc (l : List (Rp × Value)) (z : Rp × Value) : flatR (l ++ [z]) = flatR l ++ (rc z.1.code z.1.n z.2).toList := by simp [flatR]
theorem infoRpz : ∃ (i : TypeInfo) (z : Value), Try.prog.info? 44 = some i ∧ i.zero = some z ∧ i.size = 3 ∧ i.bytes = 40 ∧ z.cells.size = 3 := by
 have h : (Try.prog.info? 44).map (fun i => (i.zero.map (·.cells.size), i.size, i.bytes)) = some (some 3, 3, 40) := by kernel_rfl
 cases hq : Try.prog.info? 44 with
 | none => simp [hq] at h
 | some i =>
  simp only [hq, Option.map_some, Option.some.injEq, Prod.mk.injEq] at h
  obtain ⟨h1, h2, h3⟩ := h
  cases hz : i.zero with
  | none => simp [hz] at h1
  | some z => exact ⟨i, z, rfl, hz, h2, h3, by simpa [hz] using h1⟩
/-- A row of the call's own whose block is not written. -/
theorem owns_only {w w' : World} {base n sz : Nat} {t : TypeId} {v : Value} {xs : List Value} {P : Nat → Prop} (h : w.ownsRow base t sz v n xs) (hO : Only P w w') (hn : ∀ x, v.ownBlock = some x → ¬ P x) : w'.ownsRow base t sz v n xs := by
 obtain ⟨hlen, hv⟩ := h
 refine ⟨hlen, ?_⟩
 rcases hv with h0 | ⟨g, cap, cur, rfl, hb, hg, hrest⟩
 ·exact .inl h0
 ·exact .inr ⟨g, cap, cur, rfl, hb, (hO.block g (hlt hg) (hn g rfl)).trans hg, hrest⟩
theorem owns_block {w : World} {base n sz : Nat} {t : TypeId} {v : Value} {xs : List Value} (h : w.ownsRow base t sz v n xs) {x : Nat} (hx : v.ownBlock = some x) : base ≤ x ∧ ∃ cur, w.heap[x]? = some (.cells cur t (0, 0)) := by
 rcases h.2 with ⟨rfl, _⟩ | ⟨g, cap, cur, rfl, hb, hg, _⟩
 ·simp [Value.ownBlock] at hx
 ·simp [Value.ownBlock] at hx; subst hx; exact ⟨hb, cur, hg⟩
/-- Replies in a row of the call's own, their lists in rows of their own. -/
structure RepRow (w : World) (base : Nat) (v : Value) (zs : List (Rp × Value)) : Prop where
 row : w.ownsRow base 44 3 v zs.length (flatR zs)
 list : ∀ z ∈ zs, OwnInts w base z.2 (nats z.1.done)
 room : zs.length * 40 ≤ 140737488355328
theorem RepRow.nil (w : World) (base : Nat) : RepRow w base (.slice none 0 0) [] := ⟨⟨rfl, .inl ⟨rfl, rfl⟩⟩, by simp, by simp⟩
/-- Only blocks are written that hold neither replies nor ints. -/
theorem RepRow.only {w w' : World} {base : Nat} {v : Value} {zs : List (Rp × Value)} {P : Nat → Prop} (h : RepRow w base v zs) (hO : Only P w w') (hr : ∀ b, P b → ∀ cur, w.heap[b]? ≠ some (.cells cur 44 (0, 0))) (hi : ∀ b, P b → ∀ cur, w.heap[b]? ≠ some (.cells cur 3 (0, 0))) : RepRow w' base v zs where
 row := owns_only h.row hO fun x hx hp => by
  obtain ⟨_, cur, hg⟩ := owns_block h.row hx
  exact hr x hp cur hg
 list := fun z hz => ⟨owns_only (h.list z hz).1 hO fun x hx hp => by
  obtain ⟨_, cur, hg⟩ := owns_block (h.list z hz).1 hx
  exact hi x hp cur hg, (h.list z hz).2⟩
 room := h.room
theorem RepRow.below {w w' : World} {base : Nat} {v : Value} {zs : List (Rp × Value)} (h : RepRow w base v zs) (hb : Below w.heap.size w w') : RepRow w' base v zs :=
 ⟨owns_only h.row (only_new (av := fun _ => False) hb) fun _ _ f => f, fun z hz => (h.list z hz).below hb, h.room⟩
/-- The bank has done an act. -/
theorem RepRow.did {w w' : World} {base p : Nat} {av : Nat → Prop} {K : Bk} {v : Value} {zs : List (Rp × Value)} (h : RepRow w base v zs) (hk : BankAt w p av K) (hO : Only (fun b => b = p) w w') : RepRow w' base v zs := by
 obtain ⟨_, _, hg, _⟩ := hk.box
 refine h.only hO (fun b e cur hc => ?_) (fun b e cur hc => ?_)
 ·rw [e, hg] at hc
  have : 83 = 44 := by injection (Option.some.inj hc)
  exact absurd this (by decide)
 ·rw [e, hg] at hc
  have : 83 = 3 := by injection (Option.some.inj hc)
  exact absurd this (by decide)
/-- One more reply. -/
theorem RepRow.snoc {w w' : World} {base : Nat} {v v' v2 : Value} {zs : List (Rp × Value)} {r : Rp} (h : RepRow w base v zs) (ho : OwnInts w base v2 (nats r.done)) (hown : w'.ownsRow base 44 3 v' (zs.length + 1) (flatR zs ++ (rc r.code r.n v2).toList)) (hgr : w.grownBy w' v.ownBlock) (hr : (zs.length + 1) * 40 ≤ 140737488355328) :
  RepRow w' base v' (zs ++ [(r, v2)]) := by
 have hk : ∀ (u : Value) (l : List Int), OwnInts w base u l → OwnInts w' base u l := fun u l hu => ⟨owns_only hu.1 (only_grown hgr) fun x hx e => by
  obtain ⟨_, c1, h1⟩ := owns_block hu.1 hx
  obtain ⟨_, c2, h2⟩ := owns_block h.row e
  rw [h1] at h2
  have : 3 = 44 := by injection (Option.some.inj h2)
  exact absurd this (by decide), hu.2⟩
 refine ⟨by rw [flatR_snoc, List.length_append]; exact hown, fun z hz => ?_, by simpa using hr⟩
 rcases List.mem_append.1 hz with h1 | h1
 ·exact hk _ _ (h.list z h1)
 ·simp only [List.mem_singleton] at h1
  subst h1
  exact hk _ _ ho
/-- A reply of the row, read. -/
theorem RepRow.at_ {w : World} {base : Nat} {v : Value} {zs : List (Rp × Value)} (h : RepRow w base v zs) : ∃ a cap, v = .slice a zs.length cap ∧ (0 < zs.length → ∃ g cur, a = some ⟨g, 0, none⟩ ∧ w.heap[g]? = some (.cells cur 44 (0, 0)) ∧ ∀ i z, zs[i]? = some z → ∀ j u, (rc z.1.code z.1.n z.2)[j]? = some u → cur[i * 3 + j]? = some u) := by
 obtain ⟨hlen, hv⟩ := h.row
 rcases hv with ⟨rfl, h0⟩ | ⟨g, cap, cur, rfl, hb, hg, hn, hc, hsz, htake⟩
 ·exact ⟨none, 0, by rw [h0], fun hl => by omega⟩
 ·refine ⟨some ⟨g, 0, none⟩, cap, rfl, fun _ => ⟨g, cur, rfl, hg, fun i z hi j u hu => ?_⟩⟩
  have h1 := flatR_get zs i z hi j u hu
  have hj : j < 3 := (Array.getElem?_eq_some_iff.1 hu).1
  have hil := (List.getElem?_eq_some_iff.1 hi).1
  rw [← htake, List.getElem?_take_of_lt (by omega)] at h1
  simpa using h1
/-! ### acts, copied -/
theorem append_nilD : ∀ w : World, (Builtin.append_ #[35, 35] 35 #[.slice none 0 0, .slice none 0 0]).run Try.prog w = .ok (.slice none 0 0) w := fun w => by kernel_rfl
theorem wpList_append_acts {ops : Array Oper} {rest : List Oper} {o : Oper} {a : Act} {Q : Exit → Act → World → Prop} {w : World} (hgd : o.guard = none) (s x : Operand) (ht : o.type = 35)
  (ho : o.op = .call { callee := .builtin .append, args := #[s, x], argTypes := #[35, 35] }) (ad : Option Addr) (cap n : Nat) (l : List Deed) (hs : a.eval s = .slice none 0 0) (hx : a.eval x = .slice ad n cap) (hn : n = l.length) (hl : ActsAt w ad cap l)
  (h : ∀ v' w', OwnActs w' w.heap.size v' l → Below w.heap.size w w' → wpList Try.prog ops Q rest (a.put o.dst v') w') : wpList Try.prog ops Q (o :: rest) a w :=
 wpList_plain hgd fun _ hK => by
  obtain ⟨i, z, hi, hz, hs1, hby, hzs⟩ := info44z
  have hr : ∃ v' w', (Builtin.append_ #[35, 35] o.type #[.slice none 0 0, .slice ad n cap]).run Try.prog w = .ok v' w' ∧ OwnActs w' w.heap.size v' l ∧ Below w.heap.size w w' := by
   subst hn
   cases ad with
   | none =>
    have hc := hl.nil0 rfl
    have h0 : l = [] := List.length_eq_zero_iff.1 (by have := hl.le; omega)
    subst h0
    subst hc
    exact ⟨.slice none 0 0, w, by rw [ht]; exact append_nilD w, ⟨⟨rfl, .inl ⟨rfl, rfl⟩⟩, by simp⟩, Below.refl _ _⟩
   | some ad =>
    have hcell : ∀ j u, (flatD l)[j]? = some u → w.cell? (ad.add j) = some u := by
     rcases Nat.eq_zero_or_pos l.length with h0 | h0
     ·rw [List.length_eq_zero_iff.1 h0]; intro j u hu; simp [flatD] at hu
     ·obtain ⟨b, off, e, hbl, _⟩ := hl.row h0
      cases e
      exact hl.cells
    obtain ⟨v', w', hr, h2, h3, _⟩ := run_append_fresh (P := Try.prog) w w.heap.size 35 o.type 40 i z 5 40 Try.underlying35 hi hz hs1 hby hzs (by decide) (.slice none 0 0) 0 [] ⟨rfl, .inl ⟨rfl, rfl⟩⟩ ad l.length cap (flatD l) (flatD_length l) hcell (flatD_one l) (by have := hl.le; have := hl.capm; omega) (by have := hl.room; omega) (Nat.le_refl _)
    exact ⟨v', w', hr, ⟨by simpa using h2, hl.room⟩, (Below.refl _ _).grown h3 (Nat.le_refl _) fun k hk => by simp [Value.ownBlock] at hk⟩
  obtain ⟨v', w', hr, h2, h3⟩ := hr
  unfold Oper.wp execOp
  simp only [ho, resolve, invoke, builtin, Sem.run_bind, Sem.run_pure, Result.andThen_ok, List.map_toArray, List.map_cons, List.map_nil, hs, hx, hr]
  exact hK _ _ (h v' w' h2 h3)
theorem ActsAt.take {w : World} {a : Option Addr} {cap : Nat} {l : List Deed} (h : ActsAt w a cap l) (k : Nat) : ActsAt w a cap (l.take k) where
 le := by have := h.le; rw [List.length_take]; omega
 capm := h.capm
 room := by have := h.room; rw [List.length_take]; omega
 nil0 := h.nil0
 row := fun hl => by
  rw [List.length_take] at hl
  obtain ⟨b, off, e, hbl, hc⟩ := h.row (by omega)
  exact ⟨b, off, e, hbl, fun i p hp j v hv => hc i p (by
   have hi := (List.getElem?_eq_some_iff.1 hp).1
   rw [List.length_take] at hi
   rw [List.getElem?_take_of_lt (by omega)] at hp
   exact hp) j v hv⟩
end Go.Proofs.Ytggfdkkhlokmlab


