/- What the looker-on of a crash keeps in memory. -/
import Derived.Test.YtggfdkkhlokmlabTopSame
import Derived.Test.YtggfdkkhlokmlabRunMath
namespace Go.Proofs.Ytggfdkkhlokmlab
open Go.RowKit
theorem OwnActs.only {w w' : World} {base : Nat} {v : Value} {l : List Deed} {P : Nat → Prop} (h : OwnActs w base v l) (hO : Only P w w') (hn : ∀ x, v.ownBlock = some x → ¬ P x) : OwnActs w' base v l := ⟨owns_only h.1 hO hn, h.2⟩
theorem OwnActs.stay {w w' : World} {base : Nat} {v : Value} {l : List Deed} (h : OwnActs w base v l) (hb : ∀ x, v.ownBlock = some x → w'.heap[x]? = w.heap[x]?) : OwnActs w' base v l := by
 obtain ⟨⟨hlen, hv⟩, hroom⟩ := h
 refine ⟨⟨hlen, ?_⟩, hroom⟩
 rcases hv with h0 | ⟨g, cap, cur, rfl, hb', hg, hrest⟩
 ·exact .inl h0
 ·exact .inr ⟨g, cap, cur, rfl, hb', (hb g rfl).trans hg, hrest⟩
theorem OwnActs.nil (w : World) (base : Nat) : OwnActs w base (.slice none 0 0) [] := ⟨⟨rfl, .inl ⟨rfl, rfl⟩⟩, by simp⟩
/-- The boxes hold no acts. -/
theorem OwnActs.ne_box {w : World} {base b : Nat} {v : Value} {l : List Deed} {c : Array Value} (h : OwnActs w base v l) (hb : w.heap[b]? = some (.cells c 35 (0, 0))) : v.ownBlock ≠ some b := fun e => by
 obtain ⟨_, cur, hg⟩ := owns_block h.1 e
 rw [hb] at hg
 have : 35 = 40 := by injection (Option.some.inj hg)
 exact absurd this (by decide)
theorem OwnActs.lt {w : World} {base : Nat} {v : Value} {l : List Deed} (h : OwnActs w base v l) {x : Nat} (hx : v.ownBlock = some x) : x < w.heap.size := by
 obtain ⟨_, cur, hg⟩ := owns_block h.1 hx
 exact hlt hg
/-- An act in a row of its own. -/
theorem OwnActs.one_ {w : World} {base g : Nat} {d : Deed} (h : w.heap[g]? = some (.cells (dc d) 40 (0, 0))) (hb : base ≤ g) : OwnActs w base (.slice (some ⟨g, 0, none⟩) 1 1) [d] :=
 ⟨⟨by simp [flatD, dc], .inr ⟨g, 1, dc d, rfl, hb, h, by simp, by unfold maxLen; omega, by simp [dc], by simp [flatD, dc]⟩⟩, by simp⟩
/-- Nothing is written so far, or the rows and the boxes as said. -/
structure CrashMid (base db lb : Nat) (v u v' u' : Value) (g' : List Deed × List Deed) (w W : World) : Prop where
 only : Only (fun b => b = db ∨ b = lb ∨ v.ownBlock = some b) w W
 ne : db ≠ lb
 old1 : db < w.heap.size
 old2 : lb < w.heap.size
 low : base ≤ w.heap.size
 box1 : W.heap[db]? = some (.cells #[v'] 35 (0, 0))
 box2 : W.heap[lb]? = some (.cells #[u'] 35 (0, 0))
 own1 : OwnActs W base v' g'.1
 own2 : OwnActs W base u' g'.2
 new1 : ∀ b, v'.ownBlock = some b → v.ownBlock = some b ∨ w.heap.size ≤ b
 new2 : ∀ b, u'.ownBlock = some b → u.ownBlock = some b ∨ w.heap.size ≤ b
section
variable {base db lb : Nat} {v u v' u' : Value} {g' : List Deed × List Deed} {w W W' : World}
theorem CrashMid.below (h : CrashMid base db lb v u v' u' g' w W) (hb : Below W.heap.size W W') : CrashMid base db lb v u v' u' g' w W' :=
 ⟨h.only.more hb, h.ne, h.old1, h.old2, h.low, hkeep hb h.box1, hkeep hb h.box2, h.own1.below hb, h.own2.below hb, h.new1, h.new2⟩
/-- The row in block lb is left, another stands there. -/
theorem CrashMid.lost (h : CrashMid base db lb v u v' u' g' w W) (x : Value) (k : List Deed) (hx : OwnActs W base x k) (hn : ∀ b, x.ownBlock = some b → u.ownBlock = some b ∨ w.heap.size ≤ b) : CrashMid base db lb v u v' x (g'.1, k) w (W.setCell ⟨lb, 0, none⟩ x) := by
 have hO := only_set lb 0 x W
 refine ⟨h.only.trans (hO.mono fun b _ e => .inr (.inl e)), h.ne, h.old1, h.old2, h.low, (hO.block db (hlt h.box1) h.ne).trans h.box1, hsetSame (i := 0) h.box2 x, h.own1.only hO fun y hy e => h.own1.ne_box h.box2 (e ▸ hy), hx.only hO fun y hy e => hx.ne_box h.box2 (e ▸ hy), h.new1, hn⟩
/-- append: the row of what is done is written, or stands anew. -/
theorem CrashMid.app (h : CrashMid base db lb v u v u' g' w W) {v2 : Value} {w2 : World} {k : List Deed} {n : Nat} (hown : w2.ownsRow base 40 5 v2 n (flatD g'.1 ++ flatD k)) (hn : n = g'.1.length + k.length) (hr : n * 40 ≤ 140737488355328) (hgr : W.grownBy w2 v.ownBlock) (hf : ∀ x, v2.ownBlock = some x → v.ownBlock = some x ∨ W.heap.size ≤ x) :
  w2.heap[lb]? = some (.cells #[u'] 35 (0, 0)) ∧ w2.heap[db]? = some (.cells #[v] 35 (0, 0)) ∧ (w2.setCell ⟨db, 0, none⟩ v2).heap[lb]? = some (.cells #[u'] 35 (0, 0)) ∧
  CrashMid base db lb v u v2 (.slice none 0 0) (g'.1 ++ k, []) w ((w2.setCell ⟨db, 0, none⟩ v2).setCell ⟨lb, 0, none⟩ (.slice none 0 0)) := by
 have hG := only_grown hgr
 have h1 := (hG.block db (hlt h.box1) (h.own1.ne_box h.box1)).trans h.box1
 have h2 := (hG.block lb (hlt h.box2) (h.own1.ne_box h.box2)).trans h.box2
 subst hn
 have hv2 : OwnActs w2 base v2 (g'.1 ++ k) := ⟨by rw [flatD_append, List.length_append]; exact hown, by rw [List.length_append]; exact hr⟩
 have hO := only_set db 0 v2 w2
 have h3 : (w2.setCell ⟨db, 0, none⟩ v2).heap[lb]? = some (.cells #[u'] 35 (0, 0)) := (hO.block lb (hlt h2) (fun e => h.ne e.symm)).trans h2
 have h4 : (w2.setCell ⟨db, 0, none⟩ v2).heap[db]? = some (.cells #[v2] 35 (0, 0)) := hsetSame (i := 0) h1 v2
 have hv3 : OwnActs (w2.setCell ⟨db, 0, none⟩ v2) base v2 (g'.1 ++ k) := hv2.only hO fun y hy e => hv2.ne_box h1 (e ▸ hy)
 have hO2 := only_set lb 0 (.slice none 0 0) (w2.setCell ⟨db, 0, none⟩ v2)
 exact ⟨h2, h1, h3, ((h.only.trans (hG.mono fun b _ e => .inr (.inr e))).trans (hO.mono fun b _ e => .inl e)).trans (hO2.mono fun b _ e => .inr (.inl e)), h.ne, h.old1, h.old2, h.low,
  (hO2.block db (hlt h4) h.ne).trans h4, hsetSame (i := 0) h3 _, hv3.only hO2 fun y hy e => hv3.ne_box h3 (e ▸ hy), OwnActs.nil _ _, fun b e => (hf b e).imp_right fun e => Nat.le_trans h.only.size e, fun b e => by simp [Value.ownBlock] at e⟩
/-- A bank is where it was. -/
theorem CrashMid.bank (h : CrashMid base db lb v u v' u' g' w W) {p : Nat} {av : Nat → Prop} {K : Bk} (hk : BankAt w p av K) (h1 : av db) (h2 : av lb) (h3 : ∀ x, v.ownBlock = some x → av x) (hp : ¬ av p) : BankAt W p av K :=
 hk.only (h.only.mono fun b _ e => e.elim (fun e => e ▸ h1) fun e => e.elim (fun e => e ▸ h2) fun e => h3 b e) hp
end
/-- What the looker-on leaves. -/
def CrashPost (base db lb : Nat) (v u : Value) (g' : List Deed × List Deed) (w : World) (e : Ending) (w' : World) : Prop :=
 e = .returned (.bool true) ∧ Only (fun b => b = db ∨ b = lb ∨ v.ownBlock = some b) w w' ∧ ∃ v' u', w'.heap[db]? = some (.cells #[v'] 35 (0, 0)) ∧ w'.heap[lb]? = some (.cells #[u'] 35 (0, 0)) ∧ OwnActs w' base v' g'.1 ∧ OwnActs w' base u' g'.2 ∧ (∀ b, v'.ownBlock = some b → v.ownBlock = some b ∨ w.heap.size ≤ b) ∧ (∀ b, u'.ownBlock = some b → u.ownBlock = some b ∨ w.heap.size ≤ b)
theorem CrashMid.post {base db lb : Nat} {v u v' u' : Value} {g' : List Deed × List Deed} {w w1 W : World} (h : CrashMid base db lb v u v' u' g' w1 W) (hB : Below w.heap.size w w1) : CrashPost base db lb v u g' w (.returned (.bool true)) W :=
 ⟨rfl, (only_new hB).trans h.only, v', u', h.box1, h.box2, h.own1, h.own2, fun b e => (h.new1 b e).imp_right (Nat.le_trans hB.size), fun b e => (h.new2 b e).imp_right (Nat.le_trans hB.size)⟩
theorem owns_slice {w : World} {base n m sz : Nat} {t : TypeId} {v : Value} {xs : List Value} (h : w.ownsRow base t sz v n xs) (hn : n = m) : ∃ a c, v = .slice a m c := by
 subst hn
 rcases h.2 with ⟨rfl, rfl⟩ | ⟨g, cap, cur, rfl, _⟩
 ·exact ⟨_, _, rfl⟩
 ·exact ⟨_, _, rfl⟩
/-- append to the row of what is done. -/
theorem wpList_append_own {ops : Array Oper} {rest : List Oper} {o : Oper} {a : Act} {Q : Exit → Act → World → Prop} {w : World} (hgd : o.guard = none) (s x : Operand)
  (ho : o.op = .call { callee := .builtin .append, args := #[s, x], argTypes := #[35, 35] }) (base : Nat) (v : Value) (l k : List Deed) (hs : a.eval s = v) (hv : OwnActs w base v l) (ad : Addr) (c : Nat) (hx : a.eval x = .slice (some ad) k.length c)
  (hk : ActsAt w (some ad) c k) (hpos : 0 < k.length) (hlen : l.length + k.length ≤ 80) (hbase : base ≤ w.heap.size)
  (h : ∀ v' w', w'.ownsRow base 40 5 v' (l.length + k.length) (flatD l ++ flatD k) → w.grownBy w' v.ownBlock → (∀ x, v'.ownBlock = some x → v.ownBlock = some x ∨ w.heap.size ≤ x) → wpList Try.prog ops Q rest (a.put o.dst v') w') : wpList Try.prog ops Q (o :: rest) a w := by
 obtain ⟨i, z, hi, hz, hs1, hby, hzs⟩ := info44z
 obtain ⟨b, off, e, _, _⟩ := hk.row hpos
 cases e
 exact wpList_append_fresh w hgd s x 35 ho base 40 i z 5 40 Try.underlying35 hi hz hs1 hby hzs (by decide) v l.length (flatD l) hs hv.1 ⟨b, off, none⟩ k.length c (flatD k) hx (flatD_length _) hk.cells (flatD_one _) (by unfold maxLen; omega) (by omega) hbase h
theorem act_alone {w : World} {g : Nat} {d : Deed} (h : w.heap[g]? = some (.cells (dc d) 40 (0, 0))) : ActsAt w (some ⟨g, 0, none⟩) 1 [d] := by
 obtain ⟨a, cap, e, h2, _⟩ := (OwnActs.one_ (base := 0) h (Nat.zero_le _)).at_
 cases e
 exact h2
theorem acts_one' (w : World) (d : Deed) {C : Array Value} (h : C = dc d) : ActsAt (w.alloc (.cells C 40)) (some ⟨w.heap.size, 0, none⟩) 1 [d] := by
 subst h
 exact act_alone (hnew w _)
/-! ### how long the logs are -/
theorem step_len (B : Bk) (g : List Deed × List Deed) (d : Deed) : (stepLog B g d).1.length + (stepLog B g d).2.length ≤ g.1.length + g.2.length + 1 := by
 unfold stepLog
 split
 ·split <;> simp <;> omega
 ·split
  ·omega
  ·split
   ·simp only [List.length_singleton]; omega
   ·split
    ·simp only [List.length_append, List.length_singleton, List.length_nil]; omega
    ·omega
theorem gs_len {l : List Deed} : ∀ {i : Nat}, i ≤ l.length → (Gs l i).1.length + (Gs l i).2.length ≤ i
 | 0, _ => by simp [Gs, runG]
 | i + 1, h => by
  obtain ⟨d, hd⟩ : ∃ d, l[i]? = some d := ⟨l[i], List.getElem?_eq_getElem (by omega)⟩
  rw [gs_succ hd]
  have h1 := step_len (Bs l i) (Gs l i) d
  have h2 := gs_len (l := l) (i := i) (by omega)
  omega
end Go.Proofs.Ytggfdkkhlokmlab


