/- A house on its way in a variable of its own: plain laws on memory. -/
import Derived.Test.YtggfdkkhlokmlabCUnt
namespace Go.Proofs.Ytggfdkkhlokmlab
open Go.RowKit
theorem grown_trans {W wr wx : World} {g : Nat} (h : W.grownBy wr (some g)) (hg : wr.grownBy wx (some g)) : W.grownBy wx (some g) :=
 ⟨hg.os.trans h.os, hg.tape.trans h.tape, hg.output.trans h.output, Nat.le_trans h.size hg.size, fun k hk hne => (hg.block k (Nat.lt_of_lt_of_le hk h.size) hne).trans (h.block k hk hne)⟩
theorem grown_own {W wr wx : World} {g : Nat} {r : Option Nat} (h : W.grownBy wr (some g)) (hg : wr.grownBy wx r) (hr : ∀ x, r = some x → W.heap.size ≤ x) : W.grownBy wx (some g) :=
 ⟨hg.os.trans h.os, hg.tape.trans h.tape, hg.output.trans h.output, Nat.le_trans h.size hg.size, fun k hk hne => (hg.block k (Nat.lt_of_lt_of_le hk h.size) (fun e => by have := hr k e.symm; omega)).trans (h.block k hk hne)⟩
/-- The variable at block g holds the house T on its way; v: what was done; W: the world in which that began; below lo, and P: what was there before. -/
structure SwB (lo : Nat) (P : Nat → Prop) (W : World) (g : Nat) (T : St) (wr : World) (v : Value) : Prop where
 box : ∃ a cap, wr.heap[g]? = some (.cells (hc T.h (.slice a T.l.length cap)) 29 (0, 0)) ∧ PaysAt wr a cap T.l ∧ (0 < T.l.length → ∀ b off s, a = some ⟨b, off, s⟩ → ((b < lo ∧ P b) ∨ W.heap.size ≤ b) ∧ v.ownBlock ≠ some b)
 done : OwnInts wr W.heap.size v (nats T.d)
 kept : W.grownBy wr (some g)
theorem SwB.later {lo g : Nat} {P : Nat → Prop} {W wr wx : World} {T : St} {v : Value} (k : SwB lo P W g T wr v) (hb : Below wr.heap.size wr wx) : SwB lo P W g T wx v :=
 let ⟨a, cap, h1, h2, h3⟩ := k.box
 ⟨⟨a, cap, hkeep hb h1, h2.below hb, h3⟩, k.done.below hb, grown_below k.kept hb⟩
/-- The slice u holds the indexes xs, apart from the list v. -/
def LsB (W : World) (v : Value) (xs : List Nat) (wr : World) (u : Value) : Prop := ∃ a cap, u = .slice a xs.length cap ∧ IntsAt wr a cap (nats xs) ∧ (0 < xs.length → ∀ b off s, a = some ⟨b, off, s⟩ → W.heap.size ≤ b ∧ v.ownBlock ≠ some b)
theorem LsB.later {W wr wx : World} {v u : Value} {xs : List Nat} (k : LsB W v xs wr u) (hb : Below wr.heap.size wr wx) : LsB W v xs wx u :=
 let ⟨a, cap, h1, h2, h3⟩ := k
 ⟨a, cap, h1, h2.below hb, h3⟩
theorem LsB.own {W wr : World} {v u : Value} {xs : List Nat} {base : Nat} (h : OwnInts wr base u (nats xs)) (h2 : W.heap.size ≤ base) (hv : ∀ x, v.ownBlock = some x → x < base) : LsB W v xs wr u := by
 obtain ⟨a, cap, rfl, hi, hb⟩ := h.at_
 rw [nats_len]
 exact ⟨a, cap, rfl, hi, fun _ b off s e => ⟨by have := hb b off s e; omega, fun e' => by have := hb b off s e; have := hv b e'; omega⟩⟩
theorem LsB.at_ {W wr : World} {v u : Value} {xs : List Nat} (k : LsB W v xs wr u) {j i : Nat} (hj : xs[j]? = some i) : ∃ b o cap, u = .slice (some ⟨b, o, none⟩) xs.length cap ∧ wr.cell? ⟨b, o + j, none⟩ = some (.int .i64 (i : Int)) ∧ xs.length ≤ cap ∧ cap ≤ maxLen := by
 obtain ⟨a, cap, rfl, hi, _⟩ := k
 have hl : j < xs.length := (List.getElem?_eq_some_iff.1 hj).1
 obtain ⟨b, o, rfl, hb, hc⟩ := hi.row (by rw [nats_len]; omega)
 have h1 := hi.le
 rw [nats_len] at h1
 exact ⟨b, o, cap, rfl, hc j i (by simp [nats, hj]), h1, hi.capm⟩
/-- Behind a store of a settled house. -/
theorem SwB.stored {lo g : Nat} {P : Nat → Prop} {W w1 X w4 : World} {T : St} {v u : Value} {i : Nat} {xs : List Nat} {a2 : Option Addr} {cap2 : Nat} (hg : g < W.heap.size) (k : SwB lo P W g T w1 v) (hls : LsB W v xs w1 u) (hX : Below w1.heap.size w1 X)
  (hp2 : PaysAt X a2 cap2 (settled T.l i)) (hf2 : ∀ b off s, a2 = some ⟨b, off, s⟩ → w1.heap.size ≤ b) (hgr4 : X.grownBy w4 (some g))
  (hr4 : w4.heap[g]? = some (.cells (hc (T.settle i).h (.slice a2 T.l.length cap2)) 29 (0, 0))) : SwB lo P W g ⟨(T.settle i).h, (T.settle i).l, T.d⟩ w4 v ∧ LsB W v xs w4 u := by
 have hvo : ∀ x, v.ownBlock = some x → W.heap.size ≤ x ∧ x < w1.heap.size := fun x hx => ⟨k.done.own hx, k.done.ownlt hx⟩
 have hW := k.kept.size
 have hXs := hX.size
 have tr : ∀ b, b < X.heap.size → b ≠ g → w4.heap[b]? = X.heap[b]? := fun b hb hbo => hgr4.block b hb (by simpa using hbo)
 have hw4 := hgr4.size
 refine ⟨⟨⟨a2, cap2, ?_, ?_, ?_⟩, (k.done.below hX).grownP hgr4 hg, grown_trans (grown_below k.kept hX) hgr4⟩, ?_⟩
 ·show w4.heap[g]? = some (.cells (hc (T.settle i).h (.slice a2 (settled T.l i).length cap2)) 29 (0, 0))
  rw [settled_len]; exact hr4
 ·refine ⟨hp2.le, hp2.capm, hp2.room, hp2.nil0, fun hl => ?_⟩
  obtain ⟨b, off, e, hbl, hc⟩ := hp2.row hl
  have hb1 := hf2 b off none e
  exact ⟨b, off, e, by omega, fun j p hp n x hx => (World.cell?_of_block (tr b hbl (by omega))).trans (hc j p hp n x hx)⟩
 ·intro hl b off s e
  have hb1 := hf2 b off s e
  exact ⟨.inr (by omega), fun e2 => by have := hvo b e2; omega⟩
 ·obtain ⟨a, cap, e, hi, ha⟩ := hls
  refine ⟨a, cap, e, ⟨hi.le, hi.capm, hi.room, hi.nil0, fun hl => ?_⟩, ha⟩
  obtain ⟨b, off, e2, hbl, hc⟩ := hi.row hl
  rw [nats_len] at hl
  obtain ⟨h1, _⟩ := ha hl b off none e2
  exact ⟨b, off, e2, by omega, fun j n hj => (World.cell?_of_block (tr b (by omega) (by omega))).trans ((hX.cell (p := ⟨b, _, none⟩) hbl).trans (hc j n hj))⟩
/-- Behind an append to the list. -/
theorem SwB.noted {lo g : Nat} {P : Nat → Prop} {W w1 w3 : World} {T : St} {v v' u : Value} {i : Nat} {xs : List Nat} (hg : g < W.heap.size) (k : SwB lo P W g T w1 v) (hls : LsB W v xs w1 u) (hgr : w1.grownBy w3 v.ownBlock) (hO3 : OwnInts w3 W.heap.size v' (nats (T.d ++ [i]))) (hv : ∀ x, v'.ownBlock = some x → v.ownBlock = some x ∨ w1.heap.size ≤ x) :
  SwB lo P W g ⟨T.h, T.l, T.d ++ [i]⟩ w3 v' ∧ LsB W v' xs w3 u := by
 have hvo : ∀ x, v.ownBlock = some x → W.heap.size ≤ x ∧ x < w1.heap.size := fun x hx => ⟨k.done.own hx, k.done.ownlt hx⟩
 have hW := k.kept.size
 have tr : ∀ b, b < w1.heap.size → v.ownBlock ≠ some b → w3.heap[b]? = w1.heap[b]? := fun b hb hne => hgr.block b hb (fun e => hne e.symm)
 have hw3 := hgr.size
 obtain ⟨a, cap, hA, hp, hap⟩ := k.box
 refine ⟨⟨⟨a, cap, ?_, ?_, ?_⟩, hO3, grown_own k.kept hgr fun x hx => (hvo x hx).1⟩, ?_⟩
 ·show w3.heap[g]? = _
  rw [tr g (by omega) (fun e => by have := hvo g e; omega)]
  exact hA
 ·refine ⟨hp.le, hp.capm, hp.room, hp.nil0, fun hl => ?_⟩
  obtain ⟨b, off, e, hbl, hc⟩ := hp.row hl
  exact ⟨b, off, e, by omega, fun j p hp n x hx => (World.cell?_of_block (tr b hbl (hap hl b off none e).2)).trans (hc j p hp n x hx)⟩
 ·intro hl b off s e
  obtain ⟨b', off', e', hbl, _⟩ := hp.row hl
  obtain ⟨h1, h2⟩ := hap hl b off s e
  rw [e] at e'; cases e'
  refine ⟨h1, fun e3 => ?_⟩
  rcases hv b e3 with h | h
  ·exact h2 h
  ·omega
 ·obtain ⟨a, cap, e, hi, ha⟩ := hls
  refine ⟨a, cap, e, ⟨hi.le, hi.capm, hi.room, hi.nil0, fun hl => ?_⟩, fun hl b off s e2 => ?_⟩
  ·obtain ⟨b, off, e2, hbl, hc⟩ := hi.row hl
   rw [nats_len] at hl
   exact ⟨b, off, e2, by omega, fun j n hj => (World.cell?_of_block (tr b hbl (ha hl b off none e2).2)).trans (hc j n hj)⟩
  ·obtain ⟨h1, h2⟩ := ha hl b off s e2
   obtain ⟨b', off', e', hbl, _⟩ := hi.row (by rw [nats_len]; exact hl)
   rw [e2] at e'; cases e'
   refine ⟨h1, fun e3 => ?_⟩
   rcases hv b e3 with h | h
   ·exact h2 h
   ·omega
end Go.Proofs.Ytggfdkkhlokmlab


