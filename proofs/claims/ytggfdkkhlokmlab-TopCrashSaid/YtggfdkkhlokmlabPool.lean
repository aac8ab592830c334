/- Boxes that are made in a drawn order beside calls: what stays true, whatever the order. -/
import Derived.Test.YtggfdkkhlokmlabNextA
namespace Go.Proofs.Ytggfdkkhlokmlab
open Go.RowKit
section
variable {P : Program} {ops : Array Oper} {Q : Exit → Act → World → Prop} {md : Region.Mode} {I : World → Prop} {g : Nat}
theorem wpG_three {i j k fuel : Nat} {o u t : Oper} {listed : Array Bool} {a : Act} {w : World} (hr : Region.ready md ops listed = [i, j, k]) (ho : ops[i]? = some o) (hu : ops[j]? = some u) (ht : ops[k]? = some t)
  (h1 : wpList P ops (stepQ Q fun a' w' => I w' ∧ wpG P md ops Q I g fuel (listed.setIfInBounds i true) a' w') [o] a w)
  (h2 : wpList P ops (stepQ Q fun a' w' => I w' ∧ wpG P md ops Q I g fuel (listed.setIfInBounds j true) a' w') [u] a w)
  (h3 : wpList P ops (stepQ Q fun a' w' => I w' ∧ wpG P md ops Q I g fuel (listed.setIfInBounds k true) a' w') [t] a w) : wpG P md ops Q I g (fuel + 1) listed a w :=
 ⟨fun h0 => (by rw [h0] at hr; cases hr), fun m hm => by
  rw [hr] at hm
  rcases List.mem_cons.1 hm with rfl | hm
  ·exact wpOp_mono (fun a' w' h => ⟨fun _ => h.1, h.2⟩) (wpOp_of_list ho h1)
  ·rcases List.mem_cons.1 hm with rfl | hm
   ·exact wpOp_mono (fun a' w' h => ⟨fun _ => h.1, h.2⟩) (wpOp_of_list hu h2)
   ·obtain rfl := List.mem_singleton.1 hm
    exact wpOp_mono (fun a' w' h => ⟨fun _ => h.1, h.2⟩) (wpOp_of_list ht h3)⟩
end
theorem ints_own_lt {w : World} {base : Nat} {v : Value} {l : List Int} (h : OwnInts w base v l) {x : Nat} (hx : v.ownBlock = some x) : x < w.heap.size := by
 rcases h.1.2 with ⟨rfl, _⟩ | ⟨g', cap, cur, rfl, _, hg, _⟩
 ·simp [Value.ownBlock] at hx
 ·simp [Value.ownBlock] at hx; subst hx; exact hlt hg
theorem pays_own {w : World} {base : Nat} {v : Value} {l : List Pay} (h : OwnPays w base v l) {x : Nat} (hx : v.ownBlock = some x) : base ≤ x ∧ x < w.heap.size ∧ ∃ c, w.heap[x]? = some (.cells c 70 (0, 0)) := by
 rcases h.1.2 with ⟨rfl, _⟩ | ⟨g', cap, cur, rfl, hb, hg, _⟩
 ·simp [Value.ownBlock] at hx
 ·simp [Value.ownBlock] at hx; subst hx; exact ⟨hb, hlt hg, _, hg⟩
/-- New boxes. -/
structure Pool (W w : World) (bs : List (Nat × Obj)) : Prop where
 low : Below W.heap.size W w
 box : ∀ b ∈ bs, W.heap.size ≤ b.1 ∧ w.heap[b.1]? = some b.2
 nodup : (bs.map (·.1)).Nodup
theorem Pool.start (W : World) : Pool W W.drew [] := ⟨(Below.refl _ _).drew, by simp, by simp⟩
theorem Pool.alloc {W w : World} {bs : List (Nat × Obj)} (h : Pool W w bs) (o : Obj) : Pool W (w.alloc o) ((w.heap.size, o) :: bs) := by
 refine ⟨h.low.alloc h.low.size o, fun b hb => ?_, ?_⟩
 ·rcases List.mem_cons.1 hb with rfl | hb
  ·exact ⟨h.low.size, hnew w o⟩
  ·exact ⟨(h.box b hb).1, hold (h.box b hb).2 o⟩
 ·simp only [List.map_cons, List.nodup_cons]
  refine ⟨fun hm => ?_, h.nodup⟩
  obtain ⟨b, hb, e⟩ := List.mem_map.1 hm
  have := hlt (h.box b hb).2
  omega
theorem Pool.below {W w w' : World} {bs : List (Nat × Obj)} (h : Pool W w bs) (hb : Below w.heap.size w w') : Pool W w' bs :=
 ⟨bstep h.low h.low.size hb, fun b m => ⟨(h.box b m).1, hkeep hb (h.box b m).2⟩, h.nodup⟩
theorem Pool.only {W w w' : World} {bs : List (Nat × Obj)} {P : Nat → Prop} (h : Pool W w bs) (hO : Only P w w') (hP : ∀ b, P b → W.heap.size ≤ b) (hn : ∀ b ∈ bs, ¬ P b.1) : Pool W w' bs :=
 ⟨((only_below h.low).step hO fun b p => .inl (hP b p)).below (Nat.le_refl _) fun _ h => h, fun b m => ⟨(h.box b m).1, (hO.block _ (hlt (h.box b m).2) (hn b m)).trans (h.box b m).2⟩, h.nodup⟩
theorem Pool.swap {W w : World} {p q : Nat × Obj} (h : Pool W w [p, q]) : Pool W w [q, p] :=
 ⟨h.low, fun b m => h.box b (by simp only [List.mem_cons, List.not_mem_nil, or_false] at m ⊢; exact m.symm), by have := h.nodup; simp only [List.map_cons, List.map_nil, List.nodup_cons, List.mem_singleton, List.not_mem_nil, not_false_eq_true, List.nodup_nil, and_true] at this ⊢; exact fun e => this e.symm⟩
/-- A house's payments and a list, beside new boxes; A: the old blocks where the payments may lie. -/
structure Res (A : Nat → Prop) (W w : World) (bs : List (Nat × Obj)) (X : Nx) (a : Option Addr) (cap : Nat) (v : Value) : Prop where
 pays : PaysAt w a cap X.l
 ints : OwnInts w W.heap.size v (nats X.done)
 src : 0 < X.l.length → ∀ b off s, a = some ⟨b, off, s⟩ → (A b ∨ W.heap.size ≤ b) ∧ v.ownBlock ≠ some b ∧ ∀ k ∈ bs, b ≠ k.1
 list : ∀ k ∈ bs, v.ownBlock ≠ some k.1
section
variable {A : Nat → Prop} {W w w' : World} {bs : List (Nat × Obj)} {X : Nx} {a : Option Addr} {cap : Nat} {v : Value}
theorem Res.lt (h : Res A W w bs X a cap v) (hl : 0 < X.l.length) {b off : Nat} {s : Option Nat} (e : a = some ⟨b, off, s⟩) : b < w.heap.size := by
 obtain ⟨b', off', e', hbl, _⟩ := h.pays.row hl
 rw [e] at e'; cases e'; exact hbl
theorem Res.alloc (h : Res A W w bs X a cap v) (o : Obj) : Res A W (w.alloc o) ((w.heap.size, o) :: bs) X a cap v := by
 refine ⟨h.pays.alloc o, h.ints.alloc o, fun hl b off s e => ⟨(h.src hl b off s e).1, (h.src hl b off s e).2.1, fun k hk => ?_⟩, fun k hk e => ?_⟩
 ·rcases List.mem_cons.1 hk with rfl | hk
  ·have := h.lt hl e
   show b ≠ w.heap.size
   omega
  ·exact (h.src hl b off s e).2.2 k hk
 ·rcases List.mem_cons.1 hk with rfl | hk
  ·have := ints_own_lt h.ints e
   exact absurd this (Nat.lt_irrefl _)
  ·exact h.list k hk e
theorem Res.swap {p q : Nat × Obj} (h : Res A W w [p, q] X a cap v) : Res A W w [q, p] X a cap v :=
 ⟨h.pays, h.ints, fun hl b off s e => ⟨(h.src hl b off s e).1, (h.src hl b off s e).2.1, fun k hk => (h.src hl b off s e).2.2 k (by simp only [List.mem_cons, List.not_mem_nil, or_false] at hk ⊢; exact hk.symm)⟩, fun k hk => h.list k (by simp only [List.mem_cons, List.not_mem_nil, or_false] at hk ⊢; exact hk.symm)⟩
end
/-- Two boxes: the house and the answer. -/
structure Two (A : Nat → Prop) (W w : World) (x y : Nat) (X : Nx) (a : Option Addr) (cap : Nat) (v : Value) : Prop where
 low : Below W.heap.size W w
 hx : w.heap[x]? = some (.cells (hc X.h (.slice a X.l.length cap)) 29 (0, 0))
 hy : w.heap[y]? = some (.cells (rc X.code X.n v) 44 (0, 0))
 bx : W.heap.size ≤ x
 yb : W.heap.size ≤ y
 ne : x ≠ y
 pays : PaysAt w a cap X.l
 ints : OwnInts w W.heap.size v (nats X.done)
 src : 0 < X.l.length → ∀ b off s, a = some ⟨b, off, s⟩ → (A b ∨ W.heap.size ≤ b) ∧ v.ownBlock ≠ some b ∧ b ≠ x ∧ b ≠ y
 list : v.ownBlock ≠ some x ∧ v.ownBlock ≠ some y
theorem two_of {A : Nat → Prop} {W w wa wb : World} {x y : Nat} {o o' : Obj} {X : Nx} {a : Option Addr} {cap : Nat} {v : Value} (h : Pool W w [(x, o), (y, o')]) (r : Res A W w [(x, o), (y, o')] X a cap v)
  (hga : w.grownBy wa (some x)) (hra : wa.heap[x]? = some (.cells (hc X.h (.slice a X.l.length cap)) 29 (0, 0))) (hgb : wa.grownBy wb (some y)) (hrb : wb.heap[y]? = some (.cells (rc X.code X.n v) 44 (0, 0))) : Two A W wb x y X a cap v := by
 have hx := h.box (x, o) (by simp)
 have hy := h.box (y, o') (by simp)
 have hn : x ≠ y := by
  have := h.nodup
  simp only [List.map_cons, List.map_nil, List.nodup_cons, List.mem_singleton, List.not_mem_nil, not_false_eq_true, List.nodup_nil, and_true] at this
  exact this
 have hs : ∀ hl b off s, a = some ⟨b, off, s⟩ → (A b ∨ W.heap.size ≤ b) ∧ v.ownBlock ≠ some b ∧ b ≠ x ∧ b ≠ y := fun hl b off s e => ⟨(r.src hl b off s e).1, (r.src hl b off s e).2.1, (r.src hl b off s e).2.2 (x, o) (by simp), (r.src hl b off s e).2.2 (y, o') (by simp)⟩
 have hlx := r.list (x, o) (by simp)
 have hly := r.list (y, o') (by simp)
 refine ⟨(((only_below h.low).step (only_grown hga) fun b e => by cases e; exact .inl hx.1).step (only_grown hgb) fun b e => by cases e; exact .inl hy.1).below (Nat.le_refl _) fun _ h => h, (hgb.block _ (hlt hra) (by simpa using hn)).trans hra, hrb, hx.1, hy.1, hn, ?_, ?_, hs, hlx, hly⟩
 ·exact payN (payN r.pays hga fun hl b off s e => (hs hl b off s e).2.2.1) hgb fun hl b off s e => (hs hl b off s e).2.2.2
 ·exact (r.ints.grownN hga fun k hk e => hlx (e ▸ hk)).grownN hgb fun k hk e => hly (e ▸ hk)
/-- Behind bank.next, called beside boxes that are neither rows of payments nor of ints. -/
theorem NextPost.res {W w w' : World} {v0 : Value} {l : List Pay} {X : Nx} {a : Option Addr} {cap : Nat} {v : Value} {bs : List (Nat × Obj)} (hPl : Pool W w bs) (hown : OwnPays w W.heap.size v0 l) (hbs : ∀ b ∈ bs, ∀ c, b.2 ≠ .cells c 70 (0, 0))
  (hp : PaysAt w' a cap X.l) (ho : OwnInts w' w.heap.size v (nats X.done)) (hs : 0 < X.l.length → ∀ b off s, a = some ⟨b, off, s⟩ → (v0.ownBlock = some b ∨ w.heap.size ≤ b) ∧ v.ownBlock ≠ some b) (hO : Only (fun b => v0.ownBlock = some b) w w') :
  Pool W w' bs ∧ Res (fun _ => False) W w' bs X a cap v := by
 have hn : ∀ b ∈ bs, v0.ownBlock ≠ some b.1 := fun b hb e => by
  obtain ⟨_, _, c, hc⟩ := pays_own hown e
  rw [(hPl.box b hb).2] at hc
  exact hbs b hb c (Option.some.inj hc)
 refine ⟨hPl.only hO (fun b e => (pays_own hown e).1) hn, hp, ho.mono hPl.low.size, fun hl b off s e => ⟨.inr ?_, (hs hl b off s e).2, fun k hk => ?_⟩, fun k hk e => ?_⟩
 ·rcases (hs hl b off s e).1 with h | h
  ·exact (pays_own hown h).1
  ·exact Nat.le_trans hPl.low.size h
 ·rcases (hs hl b off s e).1 with h | h
  ·exact fun e => hn k hk (e ▸ h)
  ·have := hlt (hPl.box k hk).2
   omega
 ·have := ho.own e
  have := hlt (hPl.box k hk).2
  omega
end Go.Proofs.Ytggfdkkhlokmlab


