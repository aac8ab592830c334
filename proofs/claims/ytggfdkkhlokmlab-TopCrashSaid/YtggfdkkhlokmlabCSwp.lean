/- Sweeping: what holds on the way, in numbers and in memory. -/
import Derived.Deep.RegionHeld3
import Derived.Deep.Cut
import Derived.Deep.LoopGhost
import Derived.Deep.DeepCutAuto
import Derived.Test.YtggfdkkhlokmlabCPln
import Derived.Test.YtggfdkkhlokmlabCOf
import Derived.Test.YtggfdkkhlokmlabCSel
import Derived.Test.YtggfdkkhlokmlabCMem
import Derived.Test.YtggfdkkhlokmlabCLed
set_option linter.unusedSimpArgs false
namespace Go.Proofs.Ytggfdkkhlokmlab
open Go.RowKit
theorem results_house2 {fn : Func} {p u : Tmp} (hf : fn.results = #[.cell p 29, .tmp u]) (tmps : Array Value) (w : World) (g : Nat) (h : Hs) (s : Value)
  (hp : tmps.getD p undef = .pointer (some ⟨g, 0, none⟩)) (hg : w.heap[g]? = some (.cells (hc h s) 29 (0, 0))) : (results fn tmps).run Try.prog w = .ok (.tuple #[.agg (hc h s), tmps.getD u undef]) w := by
 rw [results_cell_tmp hf, hp]
 have h1 : (asAddr (.pointer (some ⟨g, 0, none⟩))).run Try.prog w = .ok ⟨g, 0, none⟩ w := rfl
 rw [h1, Result.andThen_ok, run_loadVar_row w g _ _ _ (0, 0) _ hg Try.underlying29 rfl info30]
 rfl
/-- A house on its way from S. -/
structure Wk (S T : St) : Prop where
 len : T.l.length = S.l.length
 seqs : T.l.map (·.seq) = S.l.map (·.seq)
 cnt : T.d.length + waiting T.l = waiting S.l
 near : Near T.h T.d.length
theorem GoodP.near {h : Hs} {l : List Pay} (g : GoodP h l) : Near h 0 where
 has := fun i h0 h1 => by have := sm_true (g.banks i h0 h1).has; omega
 cr := fun i h0 h1 => by have := sm_true (g.banks i h0 h1).cr; omega
 sent := fun i j h0 h1 h2 h3 => by have := sm_true ((g.banks i h0 h1).cells j h2 h3).1; omega
theorem Wk.start {h : Hs} {l : List Pay} (g : GoodP h l) : Wk ⟨h, l, []⟩ ⟨h, l, []⟩ := ⟨rfl, rfl, by simp, g.near⟩
theorem Wk.settle {S T : St} (k : Wk S T) {i : Nat} (hi : i < T.l.length) (h1 : (payAt T.l i).st = 1) : Wk S (T.settle i) where
 len := (settled_len T.l i).trans k.len
 seqs := (settle_seqs T i).trans k.seqs
 cnt := by
  have h2 := waiting_settled hi h1
  have h3 := k.cnt
  show (T.d ++ [i]).length + waiting (settled T.l i) = _
  rw [List.length_append, List.length_singleton]; omega
 near := by
  have := k.near.move (by omega) (payAt T.l i).frm (payAt T.l i).to (payAt T.l i).amt
  refine this.mono ?_
  show _ ≤ (((T.d ++ [i]).length : Nat) : Int)
  rw [List.length_append, List.length_singleton]; omega
theorem Wk.few {S T : St} (k : Wk S T) : T.d.length ≤ S.l.length := by have := k.cnt; have := waiting_le S.l; omega
theorem Wk.room {S T : St} (k : Wk S T) (h : S.l.length ≤ 24) : T.h.Room := k.near.room (by have := k.few; omega)
theorem Wk.nodup {S T : St} (k : Wk S T) (h : (S.l.map (·.seq)).Nodup) : (T.l.map (·.seq)).Nodup := by rw [k.seqs]; exact h
theorem wk_visits {S : St} (k0 : Wk S S) (hn : (S.l.map (·.seq)).Nodup) (k : Nat) : Wk S (visits k S) :=
 visits_ind (Wk S) (fun T hT => hT.nodup hn) (fun b T i xs _ hT hq _ => by
  have hi := (ofL_mem (l := T.l) (bank := b) (i := i)).1 (by rw [hq]; simp)
  exact hT.settle hi.1 hi.2.1) S k0 k
theorem visits_succ (S : St) {r m : Nat} (h : m < 4) : visits (4 * r + m + 1) S = visit (m : Int) (visits (4 * r + m) S) := by
 show visit _ _ = _
 rw [show (4 * r + m) % 4 = m from by omega]

/-! ### in memory -/
/-- What lies at a leads neither to the two variables nor to the list v. -/
def Apart (w : World) (v : Value) (a : Option Addr) (n : Nat) : Prop := 0 < n → ∀ b off s, a = some ⟨b, off, s⟩ → b ≠ w.heap.size ∧ b ≠ w.heap.size + 1 ∧ v.ownBlock ≠ some b
/-- What lies at a lies in a block that is new, or in the block of a0. -/
def FromA (w : World) (a0 a : Option Addr) : Prop := ∀ b off s, a = some ⟨b, off, s⟩ → (∃ off' s', a0 = some ⟨b, off', s'⟩) ∨ w.heap.size ≤ b
theorem hc_slice_inj {h h' : Hs} {a a' : Option Addr} {n n' c c' : Nat} {t t' : TypeId} (e : some (Obj.cells (hc h (.slice a n c)) t (0, 0)) = some (Obj.cells (hc h' (.slice a' n' c')) t' (0, 0))) : a = a' := by
 have e := Option.some.inj e
 injection e with e _ _
 have e := congrArg (fun x : Array Value => x[40]?) e
 simp only [hc_pays, Option.some.injEq, Value.slice.injEq] at e
 exact e.1
/-- The variable h holds the house T on its way; v: what was done. -/
structure SwAt (a0 : Option Addr) (w : World) (T : St) (wr : World) (v : Value) : Prop where
 box : ∃ a cap, wr.heap[w.heap.size]? = some (.cells (hc T.h (.slice a T.l.length cap)) 29 (0, 0)) ∧ PaysAt wr a cap T.l ∧ Apart w v a T.l.length
 res : wr.heap[w.heap.size + 1]? = some (.cells (hc Hs.zero (.slice none 0 0)) 29 (0, 0))
 done : OwnInts wr (w.heap.size + 2) v (nats T.d)
 below : Below w.heap.size w wr
 src : ∀ a cap, wr.heap[w.heap.size]? = some (.cells (hc T.h (.slice a T.l.length cap)) 29 (0, 0)) → FromA w a0 a
theorem SwAt.later {a0 : Option Addr} {w wr wx : World} {T : St} {v : Value} (k : SwAt a0 w T wr v) (hb : Below wr.heap.size wr wx) : SwAt a0 w T wx v :=
 let ⟨a, cap, h1, h2, h3⟩ := k.box
 ⟨⟨a, cap, hkeep hb h1, h2.below hb, h3⟩, hkeep hb k.res, k.done.below hb, k.below.trans (hb.mono k.below.size), fun a' cap' h => k.src a' cap' ((hb.block _ (hlt h1)).symm.trans h)⟩
/-- The slice u holds the indexes xs. -/
def LsAt (w : World) (v : Value) (xs : List Nat) (wr : World) (u : Value) : Prop := ∃ a cap, u = .slice a xs.length cap ∧ IntsAt wr a cap (nats xs) ∧ Apart w v a xs.length
theorem LsAt.later {w wr wx : World} {v u : Value} {xs : List Nat} (k : LsAt w v xs wr u) (hb : Below wr.heap.size wr wx) : LsAt w v xs wx u :=
 let ⟨a, cap, h1, h2, h3⟩ := k
 ⟨a, cap, h1, h2.below hb, h3⟩
theorem OwnInts.ownlt {w : World} {base : Nat} {v : Value} {l : List Int} (h : OwnInts w base v l) {x : Nat} (hx : v.ownBlock = some x) : x < w.heap.size := by
 rcases h.1.2 with ⟨rfl, _⟩ | ⟨g', cap, cur, rfl, hb', hg, _⟩
 ·simp [Value.ownBlock] at hx
 ·simp [Value.ownBlock] at hx; have := hlt hg; omega
theorem LsAt.own {w wr : World} {v u : Value} {xs : List Nat} {base : Nat} (h : OwnInts wr base u (nats xs)) (h2 : w.heap.size + 2 ≤ base) (hv : ∀ x, v.ownBlock = some x → x < base) : LsAt w v xs wr u := by
 obtain ⟨a, cap, rfl, hi, hb⟩ := h.at_
 rw [nats_len] 
 exact ⟨a, cap, rfl, hi, fun _ b off s e => ⟨by have := hb b off s e; omega, by have := hb b off s e; omega, fun e' => by have := hb b off s e; have := hv b e'; omega⟩⟩
theorem LsAt.head {w wr : World} {v u : Value} {i : Nat} {xs : List Nat} (k : LsAt w v (i :: xs) wr u) : ∃ b o cap, u = .slice (some ⟨b, o, none⟩) (xs.length + 1) cap ∧ wr.cell? ⟨b, o, none⟩ = some (.int .i64 (i : Int)) ∧ xs.length + 1 ≤ cap ∧ cap ≤ maxLen ∧ (b ≠ w.heap.size ∧ b ≠ w.heap.size + 1 ∧ v.ownBlock ≠ some b) := by
 obtain ⟨a, cap, rfl, hi, ha⟩ := k
 obtain ⟨b, o, rfl, hb, hc⟩ := hi.row (by simp [nats])
 have h1 := hi.le
 rw [nats_len] at h1
 exact ⟨b, o, cap, rfl, by have := hc 0 i (by simp [nats]); simpa using this, h1, hi.capm, ha (by simp) b o none rfl⟩
theorem LsAt.tail {w wr : World} {v : Value} {i b o cap : Nat} {xs : List Nat} (k : LsAt w v (i :: xs) wr (.slice (some ⟨b, o, none⟩) (xs.length + 1) cap)) (a' : Option Addr) (ha : 0 < xs.length → a' = some ⟨b, o + 1, none⟩) (hn : a' ≠ none) : LsAt w v xs wr (.slice a' xs.length (cap - 1)) := by
 obtain ⟨a, cap', e, hi, hap⟩ := k
 obtain ⟨rfl, _, rfl⟩ : a = some ⟨b, o, none⟩ ∧ True ∧ cap' = cap := by
  simp only [Value.slice.injEq] at e; exact ⟨e.1.symm, trivial, e.2.2.symm⟩
 have h1 := hi.le
 have h2 := hi.capm
 have h3 := hi.room
 simp only [nats_len, List.length_cons] at h1 h3
 refine ⟨a', cap' - 1, rfl, ⟨by rw [nats_len]; omega, by omega, by rw [nats_len]; omega, fun e => absurd e hn, fun hl => ?_⟩, fun hl b' off s e => ?_⟩
 ·rw [nats_len] at hl
  obtain ⟨b', o', e', hb, hc⟩ := hi.row (by simp [nats])
  cases e'
  refine ⟨b, o + 1, ha hl, hb, fun j n hj => ?_⟩
  have := hc (j + 1) n (by simpa [nats] using hj)
  rw [Nat.add_assoc, Nat.add_comm 1 j]
  exact this
 ·rw [ha hl] at e
  cases e
  exact hap (by simp) b o none rfl
/-- Behind a store into one of the two variables. -/
theorem PaysAt.grownO {w wr wx : World} {v : Value} {a : Option Addr} {cap : Nat} {l : List Pay} {g : Nat} (h : PaysAt wr a cap l) (hg : wr.grownBy wx (some g)) (ha : Apart w v a l.length) (he : g = w.heap.size ∨ g = w.heap.size + 1 := by omega) : PaysAt wx a cap l :=
 ⟨h.le, h.capm, h.room, h.nil0, fun hl => let ⟨b, off, e, hbl, hc⟩ := h.row hl
  ⟨b, off, e, Nat.lt_of_lt_of_le hbl hg.size, fun i p hp j v hv => (World.cell?_of_block (hg.block b hbl (fun e' => by
   have h2 := ha hl b off none e
   simp only [Option.some.injEq] at e'
   omega))).trans (hc i p hp j v hv)⟩⟩
theorem OwnInts.grownP {w w' : World} {base : Nat} {v : Value} {l : List Int} {g : Nat} (h : OwnInts w base v l) (hg : w.grownBy w' (some g)) (hne : g < base) : OwnInts w' base v l := by
 obtain ⟨⟨hlen, hv⟩, hroom⟩ := h
 refine ⟨⟨hlen, ?_⟩, hroom⟩
 rcases hv with h0 | ⟨g', cap, cur, rfl, hb', hg', hrest⟩
 ·exact .inl h0
 ·exact .inr ⟨g', cap, cur, rfl, hb', (hg.block _ (hlt hg') (by simp; omega)).trans hg', hrest⟩
/-- Behind one settling: the house and its payments are new, the list has grown by one. -/
theorem SwAt.step {a0 : Option Addr} {w w1 X w3 w4 : World} {T : St} {v v' u : Value} {i : Nat} {xs : List Nat} {a2 : Option Addr} {cap2 : Nat} (k : SwAt a0 w T w1 v) (hls : LsAt w v xs w1 u) (hX : Below w1.heap.size w1 X)
  (hp2 : PaysAt X a2 cap2 (settled T.l i)) (hf2 : ∀ b off s, a2 = some ⟨b, off, s⟩ → w1.heap.size ≤ b)
  (hgr : X.grownBy w3 v.ownBlock) (hO3 : OwnInts w3 (w.heap.size + 2) v' (nats (T.settle i).d)) (hv : ∀ x, v'.ownBlock = some x → v.ownBlock = some x ∨ X.heap.size ≤ x)
  (hgr4 : w3.grownBy w4 (some w.heap.size)) (hr4 : w4.heap[w.heap.size]? = some (.cells (hc (T.settle i).h (.slice a2 T.l.length cap2)) 29 (0, 0))) : SwAt a0 w (T.settle i) w4 v' ∧ LsAt w v' xs w4 u := by
 have hvo : ∀ x, v.ownBlock = some x → w.heap.size + 2 ≤ x ∧ x < w1.heap.size := fun x hx => ⟨k.done.own hx, k.done.ownlt hx⟩
 have hz := hlt k.res
 have hXs := hX.size
 have tr : ∀ b, b < X.heap.size → v.ownBlock ≠ some b → b ≠ w.heap.size → w4.heap[b]? = X.heap[b]? := fun b hb hne hbo =>
  (hgr4.block b (Nat.lt_of_lt_of_le hb hgr.size) (by simpa using hbo)).trans (hgr.block b hb (fun e => hne e.symm))
 have hw4 : X.heap.size ≤ w4.heap.size := Nat.le_trans hgr.size hgr4.size
 refine ⟨⟨⟨a2, cap2, ?_, ?_, ?_⟩, ?_, hO3.grownP hgr4 (by omega), ?_, fun a' cap' h => by obtain rfl := hc_slice_inj (hr4.symm.trans h); exact fun b off s e => .inr (by have := hf2 b off s e; omega)⟩, ?_⟩
 ·show w4.heap[w.heap.size]? = some (.cells (hc (T.settle i).h (.slice a2 (settled T.l i).length cap2)) 29 (0, 0))
  rw [settled_len]; exact hr4
 ·refine ⟨hp2.le, hp2.capm, hp2.room, hp2.nil0, fun hl => ?_⟩
  obtain ⟨b, off, e, hbl, hc⟩ := hp2.row hl
  have hb1 := hf2 b off none e
  exact ⟨b, off, e, by omega, fun j p hp n x hx => (World.cell?_of_block (tr b hbl (fun e' => by have := hvo b e'; omega) (by omega))).trans (hc j p hp n x hx)⟩
 ·intro hl b off s e
  obtain ⟨b', off', e', hbl, _⟩ := hp2.row hl
  have hb1 := hf2 b off s e
  rw [e] at e'
  cases e'
  exact ⟨by omega, by omega, fun e2 => by
   rcases hv b e2 with h | h
   ·have := hvo b h; omega
   ·omega⟩
 ·rw [tr _ (by omega) (fun e => by have := hvo _ e; omega) (by omega)]
  exact hkeep hX k.res
 ·have h1 : Below w.heap.size w X := k.below.trans (hX.mono k.below.size)
  have h2 : Below w.heap.size w w3 := h1.grown hgr h1.size fun x hx => by have := hvo x hx; omega
  exact h2.grown hgr4 h2.size fun x hx => by cases hx; exact Nat.le_refl _
 ·obtain ⟨a, cap, e, hi, ha⟩ := hls
  refine ⟨a, cap, e, ⟨hi.le, hi.capm, hi.room, hi.nil0, fun hl => ?_⟩, fun hl b off s e2 => ?_⟩
  ·obtain ⟨b, off, e2, hbl, hc⟩ := hi.row hl
   rw [nats_len] at hl
   obtain ⟨h1, h2, h3⟩ := ha hl b off none e2
   exact ⟨b, off, e2, by omega, fun j n hj => (World.cell?_of_block (tr b (by omega) h3 h1)).trans ((hX.cell (p := ⟨b, _, none⟩) hbl).trans (hc j n hj))⟩
  ·obtain ⟨h1, h2, h3⟩ := ha hl b off s e2
   obtain ⟨b', off', e', hbl, _⟩ := hi.row (by rw [nats_len]; exact hl)
   rw [e2] at e'
   cases e'
   exact ⟨h1, h2, fun e3 => by
    rcases hv b e3 with h | h
    ·exact h3 h
    ·omega⟩
/-- Behind a store of a settled house alone. -/
theorem SwAt.stored {a0 : Option Addr} {w w1 X w4 : World} {T : St} {v u : Value} {i : Nat} {xs : List Nat} {a2 : Option Addr} {cap2 : Nat} (k : SwAt a0 w T w1 v) (hls : LsAt w v xs w1 u) (hX : Below w1.heap.size w1 X)
  (hp2 : PaysAt X a2 cap2 (settled T.l i)) (hf2 : ∀ b off s, a2 = some ⟨b, off, s⟩ → w1.heap.size ≤ b) (hgr4 : X.grownBy w4 (some w.heap.size))
  (hr4 : w4.heap[w.heap.size]? = some (.cells (hc (T.settle i).h (.slice a2 T.l.length cap2)) 29 (0, 0))) : SwAt a0 w ⟨(T.settle i).h, (T.settle i).l, T.d⟩ w4 v ∧ LsAt w v xs w4 u := by
 have hvo : ∀ x, v.ownBlock = some x → w.heap.size + 2 ≤ x ∧ x < w1.heap.size := fun x hx => ⟨k.done.own hx, k.done.ownlt hx⟩
 have hz := hlt k.res
 have hXs := hX.size
 have tr : ∀ b, b < X.heap.size → b ≠ w.heap.size → w4.heap[b]? = X.heap[b]? := fun b hb hbo => hgr4.block b hb (by simpa using hbo)
 have hw4 := hgr4.size
 refine ⟨⟨⟨a2, cap2, ?_, ?_, ?_⟩, ?_, (k.done.below hX).grownP hgr4 (by omega), ?_, fun a' cap' h => by obtain rfl := hc_slice_inj (hr4.symm.trans h); exact fun b off s e => .inr (by have := hf2 b off s e; omega)⟩, ?_⟩
 ·show w4.heap[w.heap.size]? = some (.cells (hc (T.settle i).h (.slice a2 (settled T.l i).length cap2)) 29 (0, 0))
  rw [settled_len]; exact hr4
 ·refine ⟨hp2.le, hp2.capm, hp2.room, hp2.nil0, fun hl => ?_⟩
  obtain ⟨b, off, e, hbl, hc⟩ := hp2.row hl
  have hb1 := hf2 b off none e
  exact ⟨b, off, e, by omega, fun j p hp n x hx => (World.cell?_of_block (tr b hbl (by omega))).trans (hc j p hp n x hx)⟩
 ·intro hl b off s e
  have hb1 := hf2 b off s e
  exact ⟨by omega, by omega, fun e2 => by have := hvo b e2; omega⟩
 ·rw [tr _ (by omega) (by omega)]
  exact hkeep hX k.res
 ·have h1 : Below w.heap.size w X := k.below.trans (hX.mono k.below.size)
  exact h1.grown hgr4 h1.size fun x hx => by cases hx; exact Nat.le_refl _
 ·obtain ⟨a, cap, e, hi, ha⟩ := hls
  refine ⟨a, cap, e, ⟨hi.le, hi.capm, hi.room, hi.nil0, fun hl => ?_⟩, ha⟩
  obtain ⟨b, off, e2, hbl, hc⟩ := hi.row hl
  rw [nats_len] at hl
  obtain ⟨h1, _, _⟩ := ha hl b off none e2
  exact ⟨b, off, e2, by omega, fun j n hj => (World.cell?_of_block (tr b (by omega) h1)).trans ((hX.cell (p := ⟨b, _, none⟩) hbl).trans (hc j n hj))⟩
/-- Behind an append to the list alone. -/
theorem SwAt.noted {a0 : Option Addr} {w w1 w3 : World} {T : St} {v v' : Value} {i : Nat} (k : SwAt a0 w T w1 v) (hgr : w1.grownBy w3 v.ownBlock) (hO3 : OwnInts w3 (w.heap.size + 2) v' (nats (T.d ++ [i]))) (hv : ∀ x, v'.ownBlock = some x → v.ownBlock = some x ∨ w1.heap.size ≤ x) :
  SwAt a0 w ⟨T.h, T.l, T.d ++ [i]⟩ w3 v' := by
 have hvo : ∀ x, v.ownBlock = some x → w.heap.size + 2 ≤ x ∧ x < w1.heap.size := fun x hx => ⟨k.done.own hx, k.done.ownlt hx⟩
 have hz := hlt k.res
 have tr : ∀ b, b < w1.heap.size → v.ownBlock ≠ some b → w3.heap[b]? = w1.heap[b]? := fun b hb hne => hgr.block b hb (fun e => hne e.symm)
 have hw3 := hgr.size
 obtain ⟨a, cap, hA, hp, hap⟩ := k.box
 refine ⟨⟨a, cap, ?_, ?_, ?_⟩, ?_, hO3, ?_, fun a' cap' h => k.src a' cap' ((tr _ (by omega) (fun e => by have := hvo _ e; omega)).symm.trans h)⟩
 ·rw [tr _ (by omega) (fun e => by have := hvo _ e; omega)]; exact hA
 ·refine ⟨hp.le, hp.capm, hp.room, hp.nil0, fun hl => ?_⟩
  obtain ⟨b, off, e, hbl, hc⟩ := hp.row hl
  exact ⟨b, off, e, by omega, fun j p hp n x hx => (World.cell?_of_block (tr b hbl (hap hl b off none e).2.2)).trans (hc j p hp n x hx)⟩
 ·intro hl b off s e
  obtain ⟨b', off', e', hbl, _⟩ := hp.row hl
  obtain ⟨h1, h2, h3⟩ := hap hl b off s e
  rw [e] at e'
  cases e'
  exact ⟨h1, h2, fun e2 => by
   rcases hv b e2 with h | h
   ·exact h3 h
   ·omega⟩
 ·rw [tr _ (by omega) (fun e => by have := hvo _ e; omega)]; exact k.res
 ·exact k.below.grown hgr k.below.size fun x hx => by have := hvo x hx; omega
end Go.Proofs.Ytggfdkkhlokmlab

namespace Go.Proofs.Ytggfdkkhlokmlab
open Go.RowKit
attribute [local go_sem] hc_pays hc_next hc_size pc_0 pc_1 pc_2 pc_3 pc_4 pc_5
def SweepPost (T : St) (w : World) (e : Ending) (w' : World) : Prop := (∃ a cap v, e = .returned (.tuple #[.agg (hc T.h (.slice a T.l.length cap)), v]) ∧ PaysAt w' a cap T.l ∧ OwnInts w' w.heap.size v (nats T.d)) ∧ Below w.heap.size w w'
/-- As SweepPost; and the payments lie where they lay, or in a block that is new, and apart from the list. -/
def SweepPostS (a0 : Option Addr) (T : St) (w : World) (e : Ending) (w' : World) : Prop := (∃ a cap v, e = .returned (.tuple #[.agg (hc T.h (.slice a T.l.length cap)), v]) ∧ PaysAt w' a cap T.l ∧ OwnInts w' w.heap.size v (nats T.d) ∧ FromA w a0 a ∧ (0 < T.l.length → ∀ b off s, a = some ⟨b, off, s⟩ → v.ownBlock ≠ some b)) ∧ Below w.heap.size w w'
theorem SweepPostS.plain {a0 : Option Addr} {T : St} {w w' : World} {e : Ending} (h : SweepPostS a0 T w e w') : SweepPost T w e w' := let ⟨⟨a, cap, v, h1, h2, h3, _⟩, h4⟩ := h; ⟨⟨a, cap, v, h1, h2, h3⟩, h4⟩
set_option maxRecDepth 100000 in
set_option maxHeartbeats 4000000 in
theorem sweep_good (h : Hs) (l : List Pay) (a : Option Addr) (cap : Nat) (w : World) (hp : PaysAt w a cap l) (hgd : GoodP h l) :
  Calls Try.prog 62 #[.agg (hc h (.slice a l.length cap))] w (SweepPostS a (sweepS ⟨h, l, []⟩) w) := by
 obtain ⟨a0, ea0⟩ : ∃ a0 : Option Addr, a0 = a := ⟨_, rfl⟩
 replace ea0 := Lib.hid ea0
 obtain ⟨i0, z, hi, hz0, hz1, hz2, hz3⟩ := info3z
 have hgb := goodB_yes hgd
 have hlen := hgd.len
 have hnd := hgd.nodup
 have hk0 := Wk.start hgd
 have hpl : ∀ b off s, a = some ⟨b, off, s⟩ → 0 < l.length → b < w.heap.size := fun b off s e hl => by
  obtain ⟨b', off', e', hbl, _⟩ := hp.row hl
  rw [e] at e'; cases e'; exact hbl
 clear hgd
 obtain ⟨S, hS⟩ : ∃ S : St, (⟨h, l, []⟩ : St) = S := ⟨_, rfl⟩
 have hSl : S.l = l := by rw [← hS]
 rw [hS] at hk0 ⊢
 obtain ⟨F, hF⟩ : ∃ F, sweepS S = F := ⟨_, rfl⟩
 rw [hF]
 replace hF := Lib.hid hF
 rw [← hSl] at hnd hlen
 replace hSl := Lib.hid hSl
 replace hS := Lib.hid hS
 replace hnd := Lib.hid hnd
 replace hk0 := Lib.hid hk0
 replace hgb := Lib.hid hgb
 replace hpl := Lib.hid hpl
 replace hp := Lib.hid hp
 go_enter Try.func62, Try.ntmps62
 go_upto_region 1 with fail
 generalize hW : World.alloc (World.alloc w _) _ = W0
 have hgA : W0.heap[w.heap.size]? = some (.cells (hc h (.slice a l.length cap)) 29 (0, 0)) := by rw [← hW]; exact heap_alloc2_old w _ _
 have hgZ : W0.heap[w.heap.size + 1]? = some (.cells (hc Hs.zero (.slice none 0 0)) 29 (0, 0)) := by rw [← hW]; exact heap_alloc2_new w _ _
 have hB : Below w.heap.size w W0 := by rw [← hW]; exact ((Below.refl w.heap.size w).alloc (Nat.le_refl _) _).alloc (by simp) _
 have hp0 := hp.out.below hB
 clear hW
 have hS0 : SwAt a0 w ⟨h, l, []⟩ W0 (.slice none 0 0) := ⟨⟨a, cap, hgA, hp0, fun hl b off s e => by have := hpl.out b off s e hl; exact ⟨by omega, by omega, by simp [Value.ownBlock]⟩⟩, hgZ, OwnInts.nil _ _, hB, fun a' cap' hh => by obtain rfl := hc_slice_inj (hgA.symm.trans hh); exact fun b off s e => .inl ⟨off, s, ea0.out.trans e⟩⟩
 rw [hS.out] at hS0
 replace hS0 := Lib.hid hS0
 go_upto_region 4 with (first | go_skip | (refine ld_row 29 _ rfl rfl _ rfl _ _ _ _ hgA Try.underlying29 rfl info30 ?_) | (go_at_call 15; refine (good_any h l _ cap _ hp0).mono ?_; rintro e w1 ⟨rfl, hb1⟩; rw [hgb.out]))
 have hS1 := hS0.out.later hb1
 replace hS1 := Lib.hid hS1
 clear hgA hgZ hB hp0 hb1
 go_wp2_with fail
 go_loopg [4, 5] (2 * waiting S.l + 1) (fun g s4 s5 wr => ∃ (r : Nat) (b : Bool), g = 2 * waiting (visits (4 * r) S).l + (if b then 1 else 0) ∧ s5 = .bool b ∧ (b = false → Rests (visits (4 * r) S)) ∧ SwAt a0 w (visits (4 * r) S) wr s4)
 case atStart => exact ⟨0, true, rfl, rfl, (fun h => by cases h), hS1.out⟩
 case round =>
  clear hS1
  obtain ⟨r, b, hg, rfl, hrs, hsw⟩ := hrel
  obtain ⟨n0, hn0⟩ : ∃ n0, waiting (visits (4 * r) S).l = n0 := ⟨_, rfl⟩
  rw [hn0] at hg
  replace hn0 := Lib.hid hn0
  cases b
  ·have hR := hrs rfl
   have hfin := sweep_of_rests hnd.out hR
   obtain ⟨T, hT⟩ : ∃ T, visits (4 * r) S = T := ⟨_, rfl⟩
   rw [hT] at hsw hfin
   rw [hF.out] at hfin
   subst hfin
   replace hT := Lib.hid hT
   obtain ⟨⟨a1, cap1, hA, hpx, hap⟩, hZ, hown, hbx, hsrc⟩ := hsw
   have hsr := hsrc _ _ hA
   replace hsr := Lib.hid hsr
   clear hsrc
   have hl1 := hlt hZ
   replace hpx := Lib.hid hpx
   replace hown := Lib.hid hown
   clear hrs hR hg
   go_wp2_with (first | go_skip | (refine ld_row 29 _ rfl rfl _ rfl _ _ _ _ hA Try.underlying29 rfl info30 ?_) | (refine st_row 29 _ _ rfl rfl _ rfl _ rfl _ _ hZ info30 rfl (hc_one _ _ rfl) ?_; intro w5 hr5 hgr5 hsz5))
   refine bodyPost_ret (results_house2 rfl _ _ _ _ _ rfl hr5) rfl ⟨⟨a1, cap1, u4, rfl, ?_, ?_, by rw [← ea0.out]; exact hsr.out, fun hl b off s e => (hap hl b off s e).2.2⟩, ?_⟩
   ·exact hpx.out.grownO hgr5 hap
   ·exact (hown.out.grownP hgr5 (by omega)).mono (by omega)
   ·exact hbx.grown hgr5 hbx.size fun k hk => by cases hk; omega
  ·clear hrs
   obtain ⟨wo, rfl⟩ : ∃ wo : World, wo = wr := ⟨_, rfl⟩
   replace hsw := Lib.hid hsw
   go_wp2_with fail
   go_loopg [4, 5, 15] 4 (fun g s4 s5 s15 wr => ∃ (m : Nat) (b : Bool), m ≤ 4 ∧ g = 4 - m ∧ s15 = .int .i64 m ∧ s5 = .bool b ∧ (b = true ↔ waiting (visits (4 * r + m) S).l < n0) ∧ waiting (visits (4 * r + m) S).l ≤ n0 ∧ SwAt a0 w (visits (4 * r + m) S) wr s4)
   case atStart => exact ⟨0, false, by omega, rfl, rfl, rfl, by rw [Nat.add_zero, hn0.out]; simp, by rw [Nat.add_zero, hn0.out]; omega, hsw.out⟩
   case round =>
    clear hsw
    obtain ⟨m, b, hm, rfl, rfl, rfl, hbm, hwl, hsw⟩ := hrel
    by_cases h1 : m < 4
    ·have hV := visits_succ S (r := r) h1
     obtain ⟨V, eV⟩ : ∃ V, visits (4 * r + m + 1) S = V := ⟨_, rfl⟩
     have hwk := wk_visits hk0.out hnd.out (4 * r + m)
     rw [eV] at hV
     obtain ⟨T, hT⟩ : ∃ T, visits (4 * r + m) S = T := ⟨_, rfl⟩
     rw [hT] at hsw hbm hwl hV hwk
     replace hT := Lib.hid hT
     replace eV := Lib.hid eV
     replace hV := Lib.hid hV
     replace hwk := Lib.hid hwk
     replace hbm := Lib.hid hbm
     have hsw0 := Lib.hid hsw
     obtain ⟨⟨a1, cap1, hA, hpx, hap⟩, hZ, hown, hbx, hsrc⟩ := hsw
     have hsr := hsrc _ _ hA
     replace hsr := Lib.hid hsr
     clear hsrc
     replace hpx := Lib.hid hpx
     replace hown := Lib.hid hown
     replace hap := Lib.hid hap
     go_wp2_with (first | go_skip | (refine ld_row 29 _ rfl rfl _ rfl _ _ _ _ hA Try.underlying29 rfl info30 ?_) | (go_at_call 69; refine (of_any T.h T.l a1 cap1 (m : Int) _ hpx.out).mono ?_; rintro e w1 ⟨⟨v, xs, rfl, hq, hxo⟩, hb1⟩))
     have hxs := hq.eq (hwk.out.nodup hnd.out)
     have hls : LsAt w u4 xs w1 v := LsAt.own hxo (by have := hlt hZ; omega) (fun x hx => hown.out.ownlt hx)
     have hsw1 := hsw0.out.later hb1
     replace hxs := Lib.hid hxs
     replace hls := Lib.hid hls
     replace hsw1 := Lib.hid hsw1
     clear hA hpx hap hZ hown hbx hq hxo hb1 hsw0
     go_loopg [4, 5, 7] xs.length (fun g s4 s5 s7 wr => ∃ (T : St) (xs : List Nat) (b : Bool), g = xs.length ∧ Wk S T ∧ V = visit (m : Int) T ∧ xs = ofL T.l (m : Int) ∧ s5 = .bool b ∧ (b = true ↔ waiting T.l < n0) ∧ waiting T.l ≤ n0 ∧ SwAt a0 w T wr s4 ∧ LsAt w s4 xs wr s7)
     case atStart => exact ⟨T, xs, b, rfl, hwk.out, hV.out, hxs.out, rfl, hbm.out, hwl, hsw1.out, hls.out⟩
     case round =>
      clear hls hsw1 hwl hbm hwk hxs hV hT
      obtain ⟨T, xs, b, rfl, hwk, hV, hxs, rfl, hbm, hwl, hsw, hls⟩ := hrel
      cases xs with
      | nil =>
       obtain ⟨al, cal, rfl, hil, _⟩ := hls
       rw [visit_nil hxs.symm] at hV
       subst hV
       replace hxs := Lib.hid hxs
       replace hil := Lib.hid hil
       replace hbm := Lib.hid hbm
       replace hwk := Lib.hid hwk
       replace hsw := Lib.hid hsw
       go_wp2_with fail
       go_roundg (4 - (m + 1))
       case measure => omega
       case rel => exact ⟨m + 1, b, by omega, rfl, by go_num, rfl, by rw [← Nat.add_assoc, eV.out]; exact hbm.out, by rw [← Nat.add_assoc, eV.out]; exact hwl, by rw [← Nat.add_assoc, eV.out]; exact hsw.out⟩
      | cons i ys =>
       obtain ⟨bl, ol, cal, rfl, hli, hcl1, hcl2, hlap⟩ := hls.head
       obtain ⟨hiT, hst, hfr⟩ := (ofL_mem (l := T.l) (bank := (m : Int)) (i := i)).1 (by rw [← hxs]; simp)
       have hroom := hwk.room hlen
       have hpi := payAt_get hiT
       obtain ⟨p, ep⟩ : ∃ p, payAt T.l i = p := ⟨_, rfl⟩
       rw [ep] at hpi hst hfr
       have hmay : T.may i = mayB T.h p.frm p.to p.amt := by simp only [St.may, ep]
       have hsw0 := Lib.hid hsw
       have hls0 := Lib.hid hls
       obtain ⟨⟨a1, cap1, hA, hpx, hap⟩, hZ, hown, hbx, hsrc⟩ := hsw
       have hsr := hsrc _ _ hA
       replace hsr := Lib.hid hsr
       clear hsrc
       obtain ⟨bp, op, rfl, hbl, _⟩ := hpx.row (by omega)
       obtain ⟨x0, x1, x2, x3, x4, x5⟩ := hpx.six hpi
       have c40 : wr.cell? ⟨w.heap.size, 40, none⟩ = some (.slice (some ⟨bp, op, none⟩) T.l.length cap1) := (cells_at hA 40).trans (hc_pays _ _)
       have hml : (T.l.length : Int) ≤ 9223372036854775807 := by have h1 := hpx.le; have h2 := hpx.capm; unfold maxLen at h2; omega
       have hii : (i : Int) < (T.l.length : Int) := by omega
       have hy0 : (0 : Int) < ((ys.length + 1 : Nat) : Int) := by omega
       have n40 := World.new_ne wr _ c40
       have nli := World.new_ne wr _ hli
       have nx0 := World.new_ne wr _ x0
       have nx1 := World.new_ne wr _ x1
       have nx2 := World.new_ne wr _ x2
       have nx3 := World.new_ne wr _ x3
       have nx4 := World.new_ne wr _ x4
       have nx5 := World.new_ne wr _ x5
       replace hxs := Lib.hid hxs
       replace hbm := Lib.hid hbm
       replace hwk := Lib.hid hwk
       replace hV := Lib.hid hV
       replace ep := Lib.hid ep
       replace hpi := Lib.hid hpi
       replace hst := Lib.hid hst
       replace hfr := Lib.hid hfr
       replace hmay := Lib.hid hmay
       replace hA := Lib.hid hA
       replace hpx := Lib.hid hpx
       replace hZ := Lib.hid hZ
       replace hown := Lib.hid hown
       replace hap := Lib.hid hap
       replace hls := Lib.hid hls
       go_upto_region 12 with fail
       go_cut [8] (fun s8 wx => ∃ gx : Nat, s8 = .pointer (some ⟨gx, 0, none⟩) ∧ wx.heap[gx]? = some (.cells (pc p) 70 (0, 0)) ∧ Below wr.heap.size wr wx)
       case first =>
        go_region_held3 (fun w' => w'.cell? ⟨w.heap.size, 40, none⟩ = some (.slice (some ⟨bp, op, none⟩) T.l.length cap1) ∧ w'.cell? ⟨bl, ol, none⟩ = some (.int .i64 i) ∧ w'.cell? ⟨bp, op + i * 6, none⟩ = some (.int .i64 p.frm) ∧ w'.cell? ⟨bp, op + i * 6 + 1, none⟩ = some (.int .i64 p.to) ∧ w'.cell? ⟨bp, op + i * 6 + 2, none⟩ = some (.int .i64 p.amt) ∧ w'.cell? ⟨bp, op + i * 6 + 3, none⟩ = some (.int .i64 p.cls) ∧ w'.cell? ⟨bp, op + i * 6 + 4, none⟩ = some (.int .i64 p.st) ∧ w'.cell? ⟨bp, op + i * 6 + 5, none⟩ = some (.int .i64 p.seq)) (go_keep) (fail)
        all_goals
         go_wp2_with fail
         go_meet
         case rel => exact ⟨_, rfl, hnew wr (.cells (pc p) 70), ((Below.refl _ _).alloc (Nat.le_refl _) _).drew⟩
       case rest =>
        obtain ⟨gx, rfl, hgx, hbw⟩ := hcut
        have hsw2 := hsw0.out.later hbw
        have hls2 := hls0.out.later hbw
        have hA2 := hkeep hbw hA.out
        have e0 := cells_at hgx 0
        have e1 := cells_at hgx 1
        have e2 := cells_at hgx 2
        rw [pc_0] at e0
        rw [pc_1] at e1
        rw [pc_2] at e2
        replace hsw2 := Lib.hid hsw2
        replace hls2 := Lib.hid hls2
        clear x0 x1 x2 x3 x4 x5 c40 n40 nli nx0 nx1 nx2 nx3 nx4 nx5 hgx
        cases hmy : T.may i
        ·have hmy2 := hmay.out.symm.trans hmy
         have hVT := hV.out
         rw [visit_no hxs.out.symm hmy] at hVT
         subst hVT
         replace hmy := Lib.hid hmy
         replace hmy2 := Lib.hid hmy2
         go_wp2_with (first | go_skip | (refine ld_row 29 _ rfl rfl _ rfl _ _ _ _ hA2 Try.underlying29 rfl info30 ?_) | (go_at_call 80; refine (may_any V.h _ p.frm p.to p.amt _ hroom).mono ?_; rintro e w1 ⟨rfl, hb1⟩; rw [hmy2.out]))
         have hsw3 := hsw2.out.later hb1
         go_roundg (4 - (m + 1))
         case measure => omega
         case rel => exact ⟨m + 1, b, by omega, rfl, by go_num, rfl, by rw [← Nat.add_assoc, eV.out]; exact hbm.out, by rw [← Nat.add_assoc, eV.out]; exact hwl, by rw [← Nat.add_assoc, eV.out]; exact hsw3⟩
        ·have hmy2 := hmay.out.symm.trans hmy
         have hVT := hV.out
         rw [visit_yes (hwk.out.nodup hnd.out) hxs.out.symm hmy] at hVT
         have hwt := waiting_settled hiT (by rw [ep.out]; exact hst.out)
         have hwk2 := hwk.out.settle hiT (by rw [ep.out]; exact hst.out)
         have hys : ys = ofL (T.settle i).l (m : Int) := (ofL_settled (hwk.out.nodup hnd.out) hxs.out.symm).symm
         have hdn : nats (T.settle i).d = nats T.d ++ [(i : Int)] := by simp [nats, St.settle]
         have hdl : T.d.length ≤ 24 := by have := hwk.out.few; omega
         replace hmy := Lib.hid hmy
         replace hmy2 := Lib.hid hmy2
         replace hVT := Lib.hid hVT
         replace hwt := Lib.hid hwt
         replace hwk2 := Lib.hid hwk2
         replace hys := Lib.hid hys
         replace hdn := Lib.hid hdn
         go_upto_region 14 with (first | go_skip | (refine ld_row 29 _ rfl rfl _ rfl _ _ _ _ hA2 Try.underlying29 rfl info30 ?_) | (go_at_call 80; refine (may_any T.h _ p.frm p.to p.amt _ hroom).mono ?_; rintro e w1 ⟨rfl, hb1⟩; rw [hmy2.out]))
         have hsw3 := Lib.hid (hsw2.out.later hb1)
         have hls3 := Lib.hid (hls2.out.later hb1)
         have hA3 := Lib.hid (hkeep hb1 hA2)
         have hpx3 := (hpx.out.below hbw).below hb1
         have hown3 := Lib.hid ((hown.out.below hbw).below hb1)
         have cS : ∀ w', Below w1.heap.size w1 w' → Calls Try.prog 68 #[.agg (hc T.h (.slice (some ⟨bp, op, none⟩) T.l.length cap1)), .int .i64 i] w' fun e w2 => ∃ a2 cap2, e = .returned (.agg (hc (T.settle i).h (.slice a2 T.l.length cap2))) ∧ PaysAt w2 a2 cap2 (settled T.l i) ∧ (∀ b off s, a2 = some ⟨b, off, s⟩ → w1.heap.size ≤ b) ∧ Below w'.heap.size w' w2 := fun w' hb =>
          (settle_yes T.h T.l (some ⟨bp, op, none⟩) cap1 i w' (hpx3.below hb) hroom hiT (by rw [ep.out]; exact hst.out)).mono fun e w2 ⟨⟨a2, cap2, he, hp2, hf2⟩, hb2⟩ => ⟨a2, cap2, by rw [settled_len] at he; exact he, hp2, fun b off s e => Nat.le_trans hb.size (hf2 b off s e), hb2⟩
         replace cS := Lib.hid cS
         replace hpx3 := Lib.hid hpx3
         have hli3 := Lib.hid ((hbw.trans (hb1.mono hbw.size)).cell (p := ⟨bl, ol, none⟩) (World.block_lt_of_cell? _ _ hli) |>.trans hli)
         clear hsw2 hls2 hA2 hb1 hbw e0 e1 e2 hsw0 hls0
         go_cut [4, 5] (fun s4 s5 wx => s5 = .bool true ∧ SwAt a0 w (T.settle i) wx s4 ∧ LsAt w s4 (i :: ys) wx (.slice (some ⟨bl, ol, none⟩) (ys.length + 1) cal))
         case first =>
          refine wpG_start (Below w1.heap.size w1) 10 (by kernel_rfl) ?_
          have hI0 : Below w1.heap.size w1 w1.drew := (Below.refl _ _).drew
          have hcI : ∀ w', Below w1.heap.size w1 w' → w'.cell? ⟨bl, ol, none⟩ = some (.int .i64 i) := fun w' hb => (hb.cell (p := ⟨bl, ol, none⟩) (World.block_lt_of_cell? _ _ hli3.out)).trans hli3.out
          replace hcI := Lib.hid hcI
          refine wpG_first (i := 0) (oi := _) (v := (.agg (hc T.h (.slice (some ⟨bp, op, none⟩) T.l.length cap1)))) [4, 0] rfl (by kernel_rfl) (by kernel_rfl) (by kernel_rfl) (by kernel_rfl) (fun _ _ _ h => h) hI0 ?hy0 ?rs0
          case hy0 => exact yields_row 29 _ rfl rfl _ rfl _ _ _ _ (fun w' hb => hkeep hb hA3.out) Try.underlying29 rfl info30
          (try simp only [Act.put, List.setIfInBounds_toArray, List.set_cons_succ, List.set_cons_zero])
          refine wpG_first (i := 1) (oi := _) (v := (.slice (some ⟨bl, ol, none⟩) (ys.length + 1) cal)) [4, 3, 2, 1] rfl (by kernel_rfl) (by kernel_rfl) (by kernel_rfl) (by kernel_rfl) (fun _ _ _ h => h) hI0 ?hy1 ?rs1
          case hy1 => exact Or.inl ⟨by rfl, by intro w' hb; have hcw := hcI.out w' hb; go_simp⟩
          (try simp only [Act.put, List.setIfInBounds_toArray, List.set_cons_succ, List.set_cons_zero])
          refine wpG_first (i := 2) (oi := _) (v := (.pointer (some ⟨bl, ol, none⟩))) [4, 3, 2] rfl (by kernel_rfl) (by kernel_rfl) (by kernel_rfl) (by kernel_rfl) (fun _ _ _ h => h) hI0 ?hy2 ?rs2
          case hy2 => exact Or.inl ⟨by rfl, by intro w' hb; have hcw := hcI.out w' hb; go_simp⟩
          (try simp only [Act.put, List.setIfInBounds_toArray, List.set_cons_succ, List.set_cons_zero])
          refine wpG_first (i := 3) (oi := _) (v := (.int .i64 i)) [4, 3] rfl (by kernel_rfl) (by kernel_rfl) (by kernel_rfl) (by kernel_rfl) (fun _ _ _ h => h) hI0 ?hy3 ?rs3
          case hy3 => exact Or.inl ⟨by rfl, by intro w' hb; have hcw := hcI.out w' hb; go_simp⟩
          (try simp only [Act.put, List.setIfInBounds_toArray, List.set_cons_succ, List.set_cons_zero])
          refine wpG_first (i := 5) (oi := _) (v := u4) [5] rfl (by kernel_rfl) (by kernel_rfl) (by kernel_rfl) (by kernel_rfl) (fun _ _ _ h => h) hI0 ?hy5 ?rs5
          case hy5 => exact Or.inl ⟨by rfl, by intro w' hb; have hcw := hcI.out w' hb; go_simp⟩
          (try simp only [Act.put, List.setIfInBounds_toArray, List.set_cons_succ, List.set_cons_zero])
          refine wpG_first (i := 6) (oi := _) (v := (.slice (some ⟨bl, ol, none⟩) (ys.length + 1) cal)) [9, 8, 7, 6] rfl (by kernel_rfl) (by kernel_rfl) (by kernel_rfl) (by kernel_rfl) (fun _ _ _ h => h) hI0 ?hy6 ?rs6
          case hy6 => exact Or.inl ⟨by rfl, by intro w' hb; have hcw := hcI.out w' hb; go_simp⟩
          (try simp only [Act.put, List.setIfInBounds_toArray, List.set_cons_succ, List.set_cons_zero])
          refine wpG_first (i := 7) (oi := _) (v := (.pointer (some ⟨bl, ol, none⟩))) [9, 8, 7] rfl (by kernel_rfl) (by kernel_rfl) (by kernel_rfl) (by kernel_rfl) (fun _ _ _ h => h) hI0 ?hy7 ?rs7
          case hy7 => exact Or.inl ⟨by rfl, by intro w' hb; have hcw := hcI.out w' hb; go_simp⟩
          (try simp only [Act.put, List.setIfInBounds_toArray, List.set_cons_succ, List.set_cons_zero])
          refine wpG_first (i := 8) (oi := _) (v := (.int .i64 i)) [9, 8] rfl (by kernel_rfl) (by kernel_rfl) (by kernel_rfl) (by kernel_rfl) (fun _ _ _ h => h) hI0 ?hy8 ?rs8
          case hy8 => exact Or.inl ⟨by rfl, by intro w' hb; have hcw := hcI.out w' hb; go_simp⟩
          (try simp only [Act.put, List.setIfInBounds_toArray, List.set_cons_succ, List.set_cons_zero])
          refine wpG_two (i := 4) (j := 9) (by kernel_rfl) rfl rfl ?_ ?_
          ·go_wp2_with (go_at_call 68; refine (cS.out _ hI0).mono ?_; rintro e w2 ⟨a2, cap2, rfl, hp2, hf2, hb2⟩)
           have hI2 : Below w1.heap.size w1 w2 := hI0.trans (hb2.mono hI0.size)
           refine ⟨hI2, ?_⟩
           (try simp only [Act.put, List.setIfInBounds_toArray, List.set_cons_succ, List.set_cons_zero])
           refine wpG_one (i := 9) (by kernel_rfl) rfl ?_
           go_wp2_with fail
           have hIX := Lib.hid (hI2.alloc hI2.size (.cells #[.int .i64 (i : Int)] 3))
           have hpX := Lib.hid (hp2.alloc (.cells #[.int .i64 (i : Int)] 3))
           have hoX := Lib.hid (hown3.out.below hIX.out)
           refine ⟨hIX.out, ?_⟩
           (try simp only [Act.put, List.setIfInBounds_toArray, List.set_cons_succ, List.set_cons_zero])
           refine wpG_drop 10 rfl (by kernel_rfl) ?_
           simp only [List.drop_succ_cons, List.drop_zero]
           go_wp2_with (first | go_skip | (at_builtin; refine wpList_append_fresh _ rfl _ _ 42 rfl (w.heap.size + 2) 3 i0 z 1 8 Try.underlying42 hi hz0 hz1 hz2 hz3 (by decide) u4 (nats T.d).length (icells (nats T.d)) rfl hoX.out.1 ⟨w2.heap.size, 0, none⟩ 1 1 [.int .i64 (i : Int)] rfl rfl ?c1 ?c2 ?c3 ?c4 ?c5 ?_))
           case c1 => exact cell_new1 w2 _ _
           case c2 => intro u hu; obtain rfl := List.mem_singleton.1 hu; rfl
           case c3 => rw [nats_len]; simp only [maxLen]; omega
           case c4 => rw [nats_len]; omega
           case c5 => have := hIX.out.size; have := hlt hsw3.out.res; omega
           intro v' w3 hownv hgr hv
           have hO3 : OwnInts w3 (w.heap.size + 2) v' (nats (T.settle i).d) := by
            rw [hdn.out]
            exact OwnInts.snoc rfl (by rw [nats_len]; omega) hownv
           have hA4 := (hgr.block _ (hlt (hkeep hIX.out hA3.out)) (fun e => by have := hown3.out.own e.symm; omega)).trans (hkeep hIX.out hA3.out)
           replace hownv := Lib.hid hownv
           replace hgr := Lib.hid hgr
           replace hv := Lib.hid hv
           replace hO3 := Lib.hid hO3
           go_wp2_with (first | go_skip | (refine st_row 29 _ _ rfl rfl _ rfl _ rfl _ _ hA4 info30 rfl (hc_one _ _ rfl) ?_; intro w4 hr4 hgr4 hsz4))
           go_meet
           case rel => exact ⟨rfl, SwAt.step hsw3.out hls3.out hIX.out hpX.out hf2 hgr.out hO3.out (fun x hx => by first | exact hv.out x hx | simpa using hv.out x hx) hgr4 hr4⟩
          ·go_wp2_with fail
           have hI2 : Below w1.heap.size w1 (w1.drew.alloc (.cells #[.int .i64 (i : Int)] 3)) := hI0.alloc hI0.size _
           refine ⟨hI2, ?_⟩
           (try simp only [Act.put, List.setIfInBounds_toArray, List.set_cons_succ, List.set_cons_zero])
           refine wpG_one (i := 4) (by kernel_rfl) rfl ?_
           go_wp2_with (go_at_call 68; refine (cS.out _ hI2).mono ?_; rintro e w2 ⟨a2, cap2, rfl, hp2, hf2, hb2⟩)
           have hIX := Lib.hid (hI2.trans (hb2.mono hI2.size))
           have hpX := Lib.hid hp2
           have hoX := Lib.hid (hown3.out.below hIX.out)
           refine ⟨hIX.out, ?_⟩
           (try simp only [Act.put, List.setIfInBounds_toArray, List.set_cons_succ, List.set_cons_zero])
           refine wpG_drop 10 rfl (by kernel_rfl) ?_
           simp only [List.drop_succ_cons, List.drop_zero]
           go_wp2_with (first | go_skip | (at_builtin; (refine wpList_append_fresh _ rfl _ _ 42 rfl (w.heap.size + 2) 3 i0 z 1 8 Try.underlying42 hi hz0 hz1 hz2 hz3 (by decide) u4 (nats T.d).length (icells (nats T.d)) rfl hoX.out.1 ⟨w1.heap.size, 0, none⟩ 1 1 [.int .i64 (i : Int)] rfl rfl ?c1 ?c2 ?c3 ?c4 ?c5 ?_)))
           case c1 => exact cell_newB (w := w1.drew) hb2
           case c2 => intro u hu; obtain rfl := List.mem_singleton.1 hu; rfl
           case c3 => rw [nats_len]; simp only [maxLen]; omega
           case c4 => rw [nats_len]; omega
           case c5 => have := hIX.out.size; have := hlt hsw3.out.res; omega
           intro v' w3 hownv hgr hv
           have hO3 : OwnInts w3 (w.heap.size + 2) v' (nats (T.settle i).d) := by
            rw [hdn.out]
            exact OwnInts.snoc rfl (by rw [nats_len]; omega) hownv
           have hA4 := (hgr.block _ (hlt (hkeep hIX.out hA3.out)) (fun e => by have := hown3.out.own e.symm; omega)).trans (hkeep hIX.out hA3.out)
           replace hownv := Lib.hid hownv
           replace hgr := Lib.hid hgr
           replace hv := Lib.hid hv
           replace hO3 := Lib.hid hO3
           go_wp2_with (first | go_skip | (refine st_row 29 _ _ rfl rfl _ rfl _ rfl _ _ hA4 info30 rfl (hc_one _ _ rfl) ?_; intro w4 hr4 hgr4 hsz4))
           go_meet
           case rel => exact ⟨rfl, SwAt.step hsw3.out hls3.out hIX.out hpX.out hf2 hgr.out hO3.out (fun x hx => by first | exact hv.out x hx | simpa using hv.out x hx) hgr4 hr4⟩
         case rest =>
          obtain ⟨rfl, hsw4, hls4⟩ := hcut
          have hT2 : waiting (T.settle i).l < n0 := by have := hwt.out; show waiting (settled T.l i) < n0; omega
          have hcm : (cal : Int) ≤ 9223372036854775807 := by unfold maxLen at hcl2; omega
          have hlt1 : ∀ a', (0 < ys.length → a' = some ⟨bl, ol + 1, none⟩) → a' ≠ none → LsAt w u4 ys wc (.slice a' ys.length (cal - 1)) := fun a' h1 h2 => hls4.tail a' h1 h2
          replace hlt1 := Lib.hid hlt1
          replace hsw4 := Lib.hid hsw4
          replace hls4 := Lib.hid hls4
          clear hsw3 hls3 hA3 hpx3 hown3 cS hli3 hdn hA hZ hown hap hpx hxs
          by_cases hc1 : cal = 1
          ·subst hc1
           obtain rfl : ys = [] := List.length_eq_zero_iff.1 (by omega)
           have hls5 : LsAt w u4 [] wc (.slice (some ⟨bl, ol, none⟩) 0 0) := hlt1.out (some ⟨bl, ol, none⟩) (fun h => by simp at h) (by simp)
           replace hls5 := Lib.hid hls5
           go_wp2_with fail
           go_roundg 0
           case measure => simp
           case rel => exact ⟨T.settle i, [], true, rfl, hwk2.out, hVT.out, hys.out, rfl, ⟨fun _ => hT2, fun _ => rfl⟩, by omega, hsw4.out, hls5.out⟩
          ·have hls5 := hlt1.out (some ⟨bl, ol + 1, none⟩) (fun h => rfl) (by simp)
           replace hls5 := Lib.hid hls5
           go_wp2_with fail
           go_roundg ys.length
           case measure => simp
           case rel => exact ⟨T.settle i, ys, true, rfl, hwk2.out, hVT.out, hys.out, rfl, ⟨fun _ => hT2, fun _ => rfl⟩, by omega, hsw4.out, hls5.out⟩
    ·obtain rfl : m = 4 := by omega
     have hn4 := hn0.out
     have hres : b = false → Rests (visits (4 * (r + 1)) S) := fun e => by
      have h2 : waiting (visits (4 * r + 4) S).l = waiting (visits (4 * r) S).l := by
       rw [hn4]
       have h3 : ¬ waiting (visits (4 * r + 4) S).l < n0 := fun h => by rw [hbm.2 h] at e; cases e
       omega
      have h4 := rests_of_round S hnd.out (4 * r) h2
      show Rests (visits (4 * r + 4) S)
      rw [visits_rest h4 4]
      exact h4
     have hme : 2 * waiting (visits (4 * (r + 1)) S).l + (if b = true then 1 else 0) < 2 * n0 + 1 := by
      show 2 * waiting (visits (4 * r + 4) S).l + (if b = true then 1 else 0) < 2 * n0 + 1
      cases b with
      | true => have := hbm.1 rfl; simp; omega
      | false => simp; omega
     clear hbm hwl
     replace hres := Lib.hid hres
     replace hme := Lib.hid hme
     replace hsw := Lib.hid hsw
     replace hn4 := Lib.hid hn4
     replace hg := Lib.hid hg
     go_wp2_with fail
     go_roundg (2 * waiting (visits (4 * (r + 1)) S).l + (if b = true then 1 else 0))
     case measure => have h5 := hg.out; simp only [if_true] at h5; rw [h5]; exact hme.out
     case rel => exact ⟨r + 1, b, rfl, rfl, hres.out, hsw.out⟩
end Go.Proofs.Ytggfdkkhlokmlab

namespace Go.Proofs.Ytggfdkkhlokmlab
open Go.RowKit
attribute [local go_sem] hc_has hc_cr hc_sent hc_lim hc_pays hc_next hc_size pc_0 pc_1 pc_2 pc_3 pc_4 pc_5
attribute [local go_sem low] hc_hasN hc_crN hc_sentN hc_limN

/-- The first k banks are fine, and the numbers ahead of them. -/
structure UpTo (h : Hs) (l : List Pay) (k : Nat) : Prop where
 len : l.length < 25
 next : sm 0 h.next 1048576 = true
 banks : ∀ j : Nat, j < k → BankOk h j
/-- .. of bank k what stands ahead of its cells. -/
structure Head (h : Hs) (l : List Pay) (k : Nat) : Prop where
 up : UpTo h l k
 has : sm (-1099511627776) (h.has k) 1099511627776 = true
 cr : sm 0 (h.cr k) 1000000 = true
 own : h.sent k k = 0
structure Cells (h : Hs) (l : List Pay) (k m : Nat) : Prop where
 head : Head h l k
 cells : ∀ j : Nat, j < m → sm 0 (h.sent k j) 1099511627776 = true ∧ sm (-1) (h.lim k j) 1000000 = true
theorem Cells.up {h : Hs} {l : List Pay} {k : Nat} (hk : k < 4) : Cells h l k 4 ↔ UpTo h l (k + 1) := by
 constructor
 ·intro c
  refine ⟨c.head.up.len, c.head.up.next, fun j hj => ?_⟩
  by_cases e : j = k
  ·subst e
   refine ⟨c.head.has, c.head.cr, fun i i0 i1 => ?_⟩
   obtain ⟨n, rfl⟩ := Int.eq_ofNat_of_zero_le i0
   have := c.cells n (by omega)
   exact ⟨this.1, this.2, fun e => by rw [← e]; exact c.head.own⟩
  ·exact c.head.up.banks j (by omega)
 ·intro u
  have b := u.banks k (by omega)
  have hc4 : ∀ j : Nat, j < 4 → CellOk h k j := fun j hj => b.cells j (by omega) (by omega)
  exact ⟨⟨⟨u.len, u.next, fun j hj => u.banks j (by omega)⟩, b.has, b.cr, (hc4 k hk).d rfl⟩, fun j hj => ⟨(hc4 j hj).s, (hc4 j hj).l⟩⟩
/-- The first m payments are fine, too. -/
structure PaysTo (h : Hs) (l : List Pay) (m : Nat) : Prop where
 up : UpTo h l 4
 pays : ∀ (j : Nat) (p : Pay), j < m → l[j]? = some p → goodPay p = true ∧ p.seq < h.next
 dup : ∀ (i j : Nat) (p q : Pay), i < j → j < m → l[i]? = some p → l[j]? = some q → q.seq ≠ p.seq
structure PayHead (h : Hs) (l : List Pay) (m : Nat) : Prop where
 up : PaysTo h l m
 pay : ∀ p, l[m]? = some p → goodPay p = true ∧ p.seq < h.next
structure Others (h : Hs) (l : List Pay) (m n : Nat) : Prop where
 head : PayHead h l m
 dup : ∀ (i : Nat) (p q : Pay), i < n → l[i]? = some p → l[m]? = some q → q.seq ≠ p.seq
theorem Others.up {h : Hs} {l : List Pay} {m : Nat} : Others h l m m ↔ PaysTo h l (m + 1) := by
 constructor
 ·intro o
  refine ⟨o.head.up.up, fun j p hj hp => ?_, fun i j p q hij hj hp hq => ?_⟩
  ·by_cases e : j = m
   ·subst e; exact o.head.pay p hp
   ·exact o.head.up.pays j p (by omega) hp
  ·by_cases e : j = m
   ·subst e; exact o.dup i p q hij hp hq
   ·exact o.head.up.dup i j p q hij (by omega) hp hq
 ·intro u
  exact ⟨⟨⟨u.up, fun j p hj hp => u.pays j p (by omega) hp, fun i j p q hij hj => u.dup i j p q hij (by omega)⟩, fun p hp => u.pays m p (by omega) hp⟩, fun i p q hi hp hq => u.dup i m p q hi (by omega) hp hq⟩
theorem PaysTo.good {h : Hs} {l : List Pay} : PaysTo h l l.length ↔ GoodP h l := by
 constructor
 ·intro u
  refine ⟨by have := u.up.len; omega, u.up.next, fun i i0 i1 => ?_, fun p hp => ?_, ?_⟩
  ·obtain ⟨n, rfl⟩ := Int.eq_ofNat_of_zero_le i0
   exact u.up.banks n (by omega)
  ·obtain ⟨j, hj⟩ := List.getElem?_of_mem hp
   exact u.pays j p (List.getElem?_eq_some_iff.1 hj).1 hj
  ·refine List.pairwise_iff_getElem.2 fun i j hi hj hij e => ?_
   rw [List.length_map] at hi hj
   rw [List.getElem_map, List.getElem_map] at e
   exact u.dup i j _ _ hij hj (List.getElem?_eq_getElem hi) (List.getElem?_eq_getElem hj) e.symm
 ·intro g
  refine ⟨⟨by have := g.len; omega, g.next, fun j hj => g.banks j (by omega) (by omega)⟩, fun j p hj hp => g.pays p (List.mem_of_getElem? hp), fun i j p q hij hj hp hq e => ?_⟩
  obtain ⟨hi', hpe⟩ := List.getElem?_eq_some_iff.1 hp
  obtain ⟨hj', hqe⟩ := List.getElem?_eq_some_iff.1 hq
  refine List.pairwise_iff_getElem.1 g.nodup i j (by simpa using hi') (by simpa using hj') hij ?_
  rw [List.getElem_map, List.getElem_map, hpe, hqe, e]

set_option maxRecDepth 100000 in
set_option maxHeartbeats 4000000 in
theorem isHouse_any (h : Hs) (l : List Pay) (a : Option Addr) (cap : Nat) (w : World) (hp : PaysAt w a cap l) :
  Calls Try.prog 64 #[.agg (hc h (.slice a l.length cap))] w (GoodPost h l w) := by
 go_enter Try.func64, Try.ntmps64
 go_upto_region 1 with fail
 go_cut [3] (fun s3 wx => ∃ b : Bool, s3 = .bool b ∧ (b = true ↔ UpTo h l 0) ∧ wx = w.alloc (.cells (hc h (.slice a l.length cap)) 29))
 case first =>
  by_cases hl : l.length < 25
  ·have hl' : (l.length : Int) < 25 := by omega
   go_wp2_with (go_at_call 59; refine (within_any _ _ _ _).mono ?_; rintro e w' ⟨rfl, rfl⟩)
   go_meet
   exact ⟨_, rfl, ⟨fun e => ⟨hl, e, fun j hj => absurd hj (by omega)⟩, fun u => u.next⟩, rfl⟩
  ·have hl' : decide ((l.length : Int) < 25) = false := by simp; omega
   go_wp2_with (go_at_call 59; refine (within_any _ _ _ _).mono ?_; rintro e w' ⟨rfl, rfl⟩)
   go_meet
   exact ⟨_, rfl, ⟨nofun, fun u => absurd u.len hl⟩, rfl⟩
 case rest =>
  obtain ⟨b0, rfl, hb0, rfl⟩ := hcut
  replace hb0 := Lib.hid hb0
  go_wp2_with fail
  go_loopg [3, 19] 4 (fun g t i wr => ∃ k : Nat, k ≤ 4 ∧ g = 4 - k ∧ i = .int .i64 k ∧ (∃ b : Bool, t = .bool b ∧ (b = true ↔ UpTo h l k)) ∧ wr.heap[w.heap.size]? = some (.cells (hc h (.slice a l.length cap)) 29 (0, 0)) ∧ Below w.heap.size w wr)
  case atStart => exact ⟨0, by omega, rfl, rfl, ⟨b0, rfl, hb0.out⟩, hnew _ _, (Below.refl _ _).alloc (Nat.le_refl _) _⟩
  case round =>
   obtain ⟨k, hk, rfl, rfl, ⟨b, rfl, hbu⟩, hg, hb⟩ := hrel
   have hsz := hb.size
   have hcl := cells_at hg
   replace hbu := Lib.hid hbu
   by_cases h4 : k < 4
   ·go_upto_region 5 with fail
    go_cut [3] (fun s3 wx => ∃ b : Bool, s3 = .bool b ∧ (b = true ↔ Head h l k) ∧ wx = wr)
    case first =>
     cases b
     ·go_wp2_with (go_at_call 59; refine (within_any _ _ _ _).mono ?_; rintro e w' ⟨rfl, rfl⟩)
      go_meet
      exact ⟨false, rfl, ⟨nofun, fun u => by have := hbu.out.2 u.up; cases this⟩, rfl⟩
     ·cases e1 : sm (-1099511627776) (h.has k) 1099511627776
      ·go_wp2_with (go_at_call 59; refine (within_any _ _ _ _).mono ?_; rintro e w' ⟨rfl, rfl⟩)
       go_meet
       exact ⟨false, rfl, ⟨nofun, fun u => by have := u.has; rw [e1] at this; cases this⟩, rfl⟩
      cases e2 : sm 0 (h.cr k) 1000000
      ·go_wp2_with (go_at_call 59; refine (within_any _ _ _ _).mono ?_; rintro e w' ⟨rfl, rfl⟩)
       go_meet
       exact ⟨false, rfl, ⟨nofun, fun u => by have := u.cr; rw [e2] at this; cases this⟩, rfl⟩
      go_wp2_with (go_at_call 59; refine (within_any _ _ _ _).mono ?_; rintro e w' ⟨rfl, rfl⟩)
      go_meet
      exact ⟨_, rfl, ⟨fun e => ⟨hbu.out.1 (by trivial), e1, e2, by simpa using e⟩, fun u => by simpa using u.own⟩, rfl⟩
    case rest =>
     obtain ⟨b1, rfl, hb1, rfl⟩ := hcut
     replace hb1 := Lib.hid hb1
     go_wp2_with fail
     clear hcl
     go_loopg [3, 48] 4 (fun g t i wr => ∃ m : Nat, m ≤ 4 ∧ g = 4 - m ∧ i = .int .i64 m ∧ (∃ b : Bool, t = .bool b ∧ (b = true ↔ Cells h l k m)) ∧ wr.heap[w.heap.size]? = some (.cells (hc h (.slice a l.length cap)) 29 (0, 0)) ∧ Below w.heap.size w wr)
     case atStart => exact ⟨0, by omega, rfl, rfl, ⟨b1, rfl, ⟨fun e => ⟨hb1.out.1 e, fun j hj => absurd hj (by omega)⟩, fun c => hb1.out.2 c.head⟩⟩, hg, hb⟩
     case round =>
      clear hg hb hsz
      obtain ⟨m, hm, rfl, rfl, ⟨b2, rfl, hb2⟩, hg, hb⟩ := hrel
      have hsz := hb.size
      have hcl := cells_at hg
      replace hb2 := Lib.hid hb2
      by_cases h5 : m < 4
      ·cases b2
       ·go_wp2_with (go_at_call 59; refine (within_any _ _ _ _).mono ?_; rintro e w' ⟨rfl, rfl⟩)
        go_roundg (4 - (m + 1))
        case measure => omega
        case rel => exact ⟨m + 1, by omega, rfl, by go_num, ⟨false, rfl, ⟨nofun, fun c => by have := hb2.out.2 ⟨c.head, fun j hj => c.cells j (by omega)⟩; cases this⟩⟩, hg, hb⟩
       cases e3 : sm 0 (h.sent k m) 1099511627776
       ·go_wp2_with (go_at_call 59; refine (within_any _ _ _ _).mono ?_; rintro e w' ⟨rfl, rfl⟩)
        go_roundg (4 - (m + 1))
        case measure => omega
        case rel => exact ⟨m + 1, by omega, rfl, by go_num, ⟨false, rfl, ⟨nofun, fun c => by have := (c.cells m (by omega)).1; rw [e3] at this; cases this⟩⟩, hg, hb⟩
       go_wp2_with (go_at_call 59; refine (within_any _ _ _ _).mono ?_; rintro e w' ⟨rfl, rfl⟩)
       go_roundg (4 - (m + 1))
       case measure => omega
       case rel =>
        refine ⟨m + 1, by omega, rfl, by go_num, ⟨_, rfl, ⟨fun e => ⟨(hb2.out.1 (by trivial)).head, fun j hj => ?_⟩, fun c => (c.cells m (by omega)).2⟩⟩, hg, hb⟩
        by_cases ej : j = m
        ·subst ej; exact ⟨e3, e⟩
        ·exact (hb2.out.1 (by trivial)).cells j (by omega)
      ·have hd5 : decide ((m : Int) < 4) = false := by simp; omega
       obtain hm4 : m = 4 := by omega
       replace hm4 := Lib.hid hm4
       go_wp2_with fail
       go_roundg (4 - (k + 1))
       case measure => omega
       case rel => exact ⟨k + 1, by omega, rfl, by go_num, ⟨b2, rfl, by rw [hb2.out, hm4.out]; exact Cells.up h4⟩, hg, hb⟩
   ·have hd4 : decide ((k : Int) < 4) = false := by simp; omega
    obtain hk4 : k = 4 := by omega
    replace hk4 := Lib.hid hk4
    go_wp2_with fail
    clear hcl
    go_loopg [3, 75] l.length (fun g t i wr => ∃ m : Nat, m ≤ l.length ∧ g = l.length - m ∧ i = .int .i64 m ∧ (∃ b : Bool, t = .bool b ∧ (b = true ↔ PaysTo h l m)) ∧ wr.heap[w.heap.size]? = some (.cells (hc h (.slice a l.length cap)) 29 (0, 0)) ∧ Below w.heap.size w wr)
    case atStart => exact ⟨0, by omega, rfl, rfl, ⟨b, rfl, ⟨fun e => ⟨hk4.out ▸ hbu.out.1 e, fun j p hj => absurd hj (by omega), fun i j p q hij hj => absurd hj (by omega)⟩, fun c => hbu.out.2 (hk4.out ▸ c.up)⟩⟩, hg, hb⟩
    case round =>
     clear hg hb hsz
     obtain ⟨m, hm, rfl, rfl, ⟨b2, rfl, hb2⟩, hg, hb⟩ := hrel
     have hsz := hb.size
     have hcl := cells_at hg
     replace hb2 := Lib.hid hb2
     by_cases h5 : m < l.length
     ·obtain ⟨p, hpm⟩ : ∃ p, l[m]? = some p := ⟨l[m], List.getElem?_eq_getElem h5⟩
      obtain ⟨bp, off, rfl, hbl, hpc⟩ := hp.row (by omega)
      have hpw : ∀ i q, l[i]? = some q → ∀ j v, (pc q)[j]? = some v → wr.cell? ⟨bp, off + i * 6 + j, none⟩ = some v := fun i q hq j v hv => by
       rw [Nat.add_assoc]
       exact (hb.cell (p := ⟨bp, _, none⟩) hbl).trans (hpc i q hq j v hv)
      have hpc' := Lib.hid (hpw m p hpm)
      have hpw2 : ∀ wx, Below w.heap.size w wx → ∀ i q, l[i]? = some q → ∀ j v, (pc q)[j]? = some v → wx.cell? ⟨bp, off + i * 6 + j, none⟩ = some v := fun wx hb i q hq j v hv => by
       rw [Nat.add_assoc]
       exact (hb.cell (p := ⟨bp, _, none⟩) hbl).trans (hpc i q hq j v hv)
      replace hpw2 := Lib.hid hpw2
      clear hpw
      have hPm := Lib.hid hpm
      clear hpc hpm
      go_upto_region 15 with (first | go_skip | (refine ld_cells 70 _ rfl rfl _ _ rfl (pc p) _ Try.underlying70 rfl info36 hpc'.out ?_) | (refine st_new 70 _ _ rfl _ 70 _ rfl rfl rfl (pc p) rfl info36 rfl (pc_one p) ?_))
      have hqq := hnew wr (.cells (pc p) 70)
      have hgg := hold hg (.cells (pc p) 70)
      have hgl := hlt hg
      clear hcl
      have hlm : l.length ≤ 9223372036854775807 := by have h1 := hp.le; have h2 := hp.capm; unfold maxLen at h2; omega
      simp only [Act.put]
      go_cut [3] (fun s3 wx => ∃ b : Bool, s3 = .bool b ∧ (b = true ↔ PayHead h l m) ∧ wx.heap[w.heap.size]? = some (.cells (hc h (.slice (some ⟨bp, off, none⟩) l.length cap)) 29 (0, 0)) ∧ wx.heap[wr.heap.size]? = some (.cells (pc p) 70 (0, 0)) ∧ Below w.heap.size w wx)
      case first =>
       cases b2
       ·go_wp2_with fail
        go_meet
        exact ⟨false, rfl, ⟨nofun, fun c => by have := hb2.out.2 c.up; cases this⟩, hgg, hqq, hb.alloc hsz _⟩
       cases g1 : goodPay p
       ·go_wp2_with (first | go_skip | (go_at_call 65; refine (isPay_any p _).mono ?_; rintro e w1 ⟨rfl, hb1⟩; have hq1 := hkeep hb1 hqq; have hcq := cells_at hq1; have hg1 := hkeep hb1 hgg; have hcl1 := cells_at hg1) | (refine ld_row 70 _ rfl rfl _ rfl _ (pc p) _ _ hqq Try.underlying70 rfl info36 ?_))
        go_meet
        exact ⟨false, rfl, ⟨nofun, fun c => by have := (c.pay p hPm.out).1; rw [g1] at this; cases this⟩, hg1, hq1, bstep (hb.alloc hsz _) (by simp; omega) hb1⟩
       go_wp2_with (first | go_skip | (go_at_call 65; refine (isPay_any p _).mono ?_; rintro e w1 ⟨rfl, hb1⟩; have hq1 := hkeep hb1 hqq; have hcq := cells_at hq1; have hg1 := hkeep hb1 hgg; have hcl1 := cells_at hg1) | (refine ld_row 70 _ rfl rfl _ rfl _ (pc p) _ _ hqq Try.underlying70 rfl info36 ?_))
       go_meet
       exact ⟨_, rfl, ⟨fun e => ⟨hb2.out.1 (by trivial), fun q hq => by
        rw [hPm.out] at hq; cases hq; exact ⟨g1, of_decide_eq_true e⟩⟩, fun c => decide_eq_true (c.pay p hPm.out).2⟩, hg1, hq1, bstep (hb.alloc hsz _) (by simp; omega) hb1⟩
      case rest =>
       clear hqq hgg hgl hg hb hsz
       obtain ⟨b3, rfl, hb3, hg, hq, hb⟩ := hcut
       have hsz := hb.size
       have hcl := cells_at hg
       replace hb3 := Lib.hid hb3
       have hmc : m ≤ cap := by have := hp.le; omega
       have hcm := hp.capm
       go_wp2_with fail
       clear hcl hmc hcm
       obtain ⟨wo, rfl⟩ : ∃ wo : World, wo = wr := ⟨_, rfl⟩
       go_loopg [3, 97] m (fun g t i wx => ∃ n : Nat, n ≤ m ∧ g = m - n ∧ i = .int .i64 n ∧ (∃ b : Bool, t = .bool b ∧ (b = true ↔ Others h l m n)) ∧ wx.heap[w.heap.size]? = some (.cells (hc h (.slice (some ⟨bp, off, none⟩) l.length cap)) 29 (0, 0)) ∧ wx.heap[wo.heap.size]? = some (.cells (pc p) 70 (0, 0)) ∧ Below w.heap.size w wx)
       case atStart => exact ⟨0, by omega, rfl, rfl, ⟨b3, rfl, ⟨fun e => ⟨hb3.out.1 e, fun i p q hi => absurd hi (by omega)⟩, fun c => hb3.out.2 c.head⟩⟩, hg, hq, hb⟩
       case round =>
        clear hg hq hb hsz
        obtain ⟨n, hn, rfl, rfl, ⟨b4, rfl, hb4⟩, hg, hq, hb⟩ := hrel
        have hsz := hb.size
        replace hb4 := Lib.hid hb4
        by_cases h6 : n < m
        ·obtain ⟨q, hqn⟩ : ∃ q, l[n]? = some q := ⟨l[n], List.getElem?_eq_getElem (by omega)⟩
         have hqc' : ∀ j v, (pc q)[j]? = some v → wr.cell? ⟨bp, off + n * 6 + j, none⟩ = some v := fun j v hv => hpw2.out _ hb n q hqn j v hv
         replace hqc' := Lib.hid hqc'
         have hQn := Lib.hid hqn
         clear hqn
         have hcp := cells_at hq
         have hql := hlt hq
         have hnn := hnew wr (.cells (pc q) 70)
         have hcn := cells_at hnn
         replace hnn := Lib.hid hnn
         cases b4
         ·go_wp2_with (first | go_skip | (refine ld_cells 70 _ rfl rfl _ _ rfl (pc q) _ Try.underlying70 rfl info36 hqc'.out ?_) | (refine st_new 70 _ _ rfl _ 70 _ rfl rfl rfl (pc q) rfl info36 rfl (pc_one q) ?_))
          go_roundg (m - (n + 1))
          case measure => omega
          case rel => exact ⟨n + 1, by omega, rfl, by go_num, ⟨false, rfl, ⟨nofun, fun c => by have := hb4.out.2 ⟨c.head, fun i p q hi => c.dup i p q (by omega)⟩; cases this⟩⟩, hold hg _, hold hq _, hb.alloc hsz _⟩
         ·go_wp2_with (first | go_skip | (refine ld_cells 70 _ rfl rfl _ _ rfl (pc q) _ Try.underlying70 rfl info36 hqc'.out ?_) | (refine st_new 70 _ _ rfl _ 70 _ rfl rfl rfl (pc q) rfl info36 rfl (pc_one q) ?_))
          go_roundg (m - (n + 1))
          case measure => omega
          case rel =>
           refine ⟨n + 1, by omega, rfl, by go_num, ⟨_, rfl, ⟨fun e => ⟨(hb4.out.1 (by trivial)).head, fun i p1 q1 hi hp1 hq1 => ?_⟩, fun c => ?_⟩⟩, hold hg _, hold hq _, hb.alloc hsz _⟩
           ·by_cases ei : i = n
            ·subst ei
             rw [hQn.out] at hp1
             rw [hPm.out] at hq1
             cases hp1
             cases hq1
             simpa using e
            ·exact (hb4.out.1 (by trivial)).dup i p1 q1 (by omega) hp1 hq1
           ·have := c.dup n q p (by omega) hQn.out hPm.out
            simpa using this
        ·have hd6 : decide ((n : Int) < m) = false := by simp; omega
         obtain hnm : n = m := by omega
         replace hnm := Lib.hid hnm
         go_wp2_with fail
         go_roundg (l.length - (m + 1))
         case measure => omega
         case rel => exact ⟨m + 1, by omega, rfl, by go_num, ⟨b4, rfl, by rw [hb4.out, hnm.out]; exact Others.up⟩, hg, hb⟩
     ·have hd5 : decide ((m : Int) < l.length) = false := by simp; omega
      have hml : m = l.length := by omega
      have fin : goodB h l = b2 := by
       have e1 := hb2.out
       rw [hml, PaysTo.good] at e1
       cases b2
       ·exact goodB_no fun g => by have := e1.2 g; cases this
       ·exact goodB_yes (e1.1 (by trivial))
      replace fin := Lib.hid fin
      replace hml := Lib.hid hml
      go_wp2
      go_ret
      exact ⟨by rw [fin.out]; rfl, hb⟩
end Go.Proofs.Ytggfdkkhlokmlab

namespace Go.Proofs.Ytggfdkkhlokmlab
open Go.RowKit
attribute [local go_sem] hc_pays hc_next hc_size pc_0 pc_1 pc_2 pc_3 pc_4 pc_5
/-- The last n banks were idle: all four are. -/
theorem rests_of_four {S : St} {k : Nat} (h : ∀ j, j < 4 → Idle ((((k + 3 - j) % 4 : Nat)) : Int) (visits k S)) : Rests (visits k S) := by
 intro b hb
 have := h ((k + 3 - b) % 4) (Nat.mod_lt _ (by omega))
 rw [show (k + 3 - (k + 3 - b) % 4) % 4 = b from by omega] at this
 exact this
theorem house_round {S T : St} {k n n' : Nat} (hV : visits (k + 1) S = T) (hI : Idle ((k % 4 : Nat) : Int) T) (hidl : ∀ j, j < n → Idle ((((k + 3 - j) % 4 : Nat)) : Int) (visits k S))
  (hor : (T = visits k S ∧ n' = n + 1) ∨ (n' = 0 ∧ waiting T.l < waiting (visits k S).l)) (hn : n < 4) :
  (∀ j, j < n' → Idle ((((k + 1 + 3 - j) % 4 : Nat)) : Int) (visits (k + 1) S)) ∧ 5 * waiting (visits (k + 1) S).l + (4 - n') < 5 * waiting (visits k S).l + (4 - n) ∧ n' ≤ 4 := by
 rw [hV]
 rcases hor with ⟨hT, rfl⟩ | ⟨rfl, hw⟩
 ·refine ⟨fun j hj => ?_, by rw [hT]; omega, by omega⟩
  by_cases e : j = 0
  ·subst e
   rw [show (k + 1 + 3 - 0) % 4 = k % 4 from by omega]
   exact hI
  ·have := hidl (j - 1) (by omega)
   rw [← hT, show k + 3 - (j - 1) = k + 1 + 3 - j from by omega] at this
   exact this
 ·exact ⟨fun j hj => by omega, by omega, by omega⟩
theorem maySend_val {h : Hs} {frm dst amt : Int} {b : Bool} (hb : mayB h frm dst amt = b) (s : Value) (w : World) (hr : h.Room) :
  Calls Try.prog 84 #[.agg (hc h s), .int .i64 frm, .int .i64 dst, .int .i64 amt] w fun e w' => e = .returned (.bool b) ∧ Below w.heap.size w w' := by
 subst hb; exact maySend_any h s frm dst amt w hr
set_option maxRecDepth 100000 in
set_option maxHeartbeats 4000000 in
theorem sweepHouse_good (h : Hs) (l : List Pay) (a : Option Addr) (cap : Nat) (w : World) (hp : PaysAt w a cap l) (hgd : GoodP h l) :
  Calls Try.prog 67 #[.agg (hc h (.slice a l.length cap))] w (SweepPostS a (sweepS ⟨h, l, []⟩) w) := by
 obtain ⟨a0, ea0⟩ : ∃ a0 : Option Addr, a0 = a := ⟨_, rfl⟩
 replace ea0 := Lib.hid ea0
 obtain ⟨i0, z, hi, hz0, hz1, hz2, hz3⟩ := info3z
 have hgb := goodB_yes hgd
 have hlen := hgd.len
 have hnd := hgd.nodup
 have hk0 := Wk.start hgd
 have hpl : ∀ b off s, a = some ⟨b, off, s⟩ → 0 < l.length → b < w.heap.size := fun b off s e hl => by
  obtain ⟨b', off', e', hbl, _⟩ := hp.row hl
  rw [e] at e'; cases e'; exact hbl
 clear hgd
 obtain ⟨S, hS⟩ : ∃ S : St, (⟨h, l, []⟩ : St) = S := ⟨_, rfl⟩
 have hSl : S.l = l := by rw [← hS]
 rw [hS] at hk0 ⊢
 obtain ⟨F, hF⟩ : ∃ F, sweepS S = F := ⟨_, rfl⟩
 rw [hF]
 replace hF := Lib.hid hF
 rw [← hSl] at hnd hlen
 replace hSl := Lib.hid hSl
 replace hS := Lib.hid hS
 replace hnd := Lib.hid hnd
 replace hk0 := Lib.hid hk0
 replace hgb := Lib.hid hgb
 replace hpl := Lib.hid hpl
 replace hp := Lib.hid hp
 go_enter Try.func67, Try.ntmps67
 go_upto_region 1 with fail
 generalize hW : World.alloc (World.alloc w _) _ = W0
 have hgA : W0.heap[w.heap.size]? = some (.cells (hc h (.slice a l.length cap)) 29 (0, 0)) := by rw [← hW]; exact heap_alloc2_old w _ _
 have hgZ : W0.heap[w.heap.size + 1]? = some (.cells (hc Hs.zero (.slice none 0 0)) 29 (0, 0)) := by rw [← hW]; exact heap_alloc2_new w _ _
 have hB : Below w.heap.size w W0 := by rw [← hW]; exact ((Below.refl w.heap.size w).alloc (Nat.le_refl _) _).alloc (by simp) _
 have hp0 := hp.out.below hB
 clear hW
 have hS0 : SwAt a0 w ⟨h, l, []⟩ W0 (.slice none 0 0) := ⟨⟨a, cap, hgA, hp0, fun hl b off s e => by have := hpl.out b off s e hl; exact ⟨by omega, by omega, by simp [Value.ownBlock]⟩⟩, hgZ, OwnInts.nil _ _, hB, fun a' cap' hh => by obtain rfl := hc_slice_inj (hgA.symm.trans hh); exact fun b off s e => .inl ⟨off, s, ea0.out.trans e⟩⟩
 rw [hS.out] at hS0
 replace hS0 := Lib.hid hS0
 go_upto_region 4 with (first | go_skip | (refine ld_row 29 _ rfl rfl _ rfl _ _ _ _ hgA Try.underlying29 rfl info30 ?_) | (go_at_call 64; refine (isHouse_any h l _ cap _ hp0).mono ?_; rintro e w1 ⟨rfl, hb1⟩; rw [hgb.out]))
 have hS1 := hS0.out.later hb1
 replace hS1 := Lib.hid hS1
 clear hgA hgZ hB hp0 hb1
 go_wp2_with fail
 go_loopg [4, 5, 6] (5 * waiting S.l + 4) (fun g s4 s5 s6 wr => ∃ (k n : Nat), n ≤ 4 ∧ g = 5 * waiting (visits k S).l + (4 - n) ∧ s5 = .int .i64 n ∧ s6 = .int .i64 ((k % 4 : Nat) : Int) ∧ (∀ j, j < n → Idle ((((k + 3 - j) % 4 : Nat)) : Int) (visits k S)) ∧ SwAt a0 w (visits k S) wr s4)
 case atStart => exact ⟨0, 0, by omega, rfl, rfl, rfl, fun j hj => by omega, hS1.out⟩
 case round =>
  clear hS1
  obtain ⟨k, n, hn, rfl, rfl, rfl, hidl, hsw⟩ := hrel
  by_cases h4 : n < 4
  ·have h4d : decide ((n : Int) < 4) = true := decide_eq_true (by omega)
   obtain ⟨V, eV⟩ : ∃ V, visits (k + 1) S = V := ⟨_, rfl⟩
   have hV0 : V = visit ((k % 4 : Nat) : Int) (visits k S) := eV.symm
   have hwk0 := wk_visits hk0.out hnd.out k
   obtain ⟨m, hm⟩ : ∃ m, k % 4 = m := ⟨_, rfl⟩
   have hm4 : m < 4 := by omega
   have hmod : ((k + 1) % 4 : Nat) = (m + 1) % 4 := by omega
   rw [hm] at hV0 ⊢
   obtain ⟨T0, hT0⟩ : ∃ T0, visits k S = T0 := ⟨_, rfl⟩
   rw [hT0] at hV0 hwk0 hsw
   replace hidl := Lib.hid hidl
   replace eV := Lib.hid eV
   replace hV0 := Lib.hid hV0
   replace hm := Lib.hid hm
   replace hmod := Lib.hid hmod
   replace hT0 := Lib.hid hT0
   replace hwk0 := Lib.hid hwk0
   replace hsw := Lib.hid hsw
   go_wp2_with fail
   go_loopg [4, 5, 7] (waiting T0.l) (fun g s4 s5 s7 wr => ∃ (T : St) (n' : Nat), g = waiting T.l ∧ Wk S T ∧ V = visit (m : Int) T ∧ s5 = .int .i64 n' ∧ ((T = visits k S ∧ n' = n + 1) ∨ (n' = 0 ∧ waiting T.l < waiting (visits k S).l)) ∧ SwAt a0 w T wr s4)
   case atStart => exact ⟨T0, n + 1, rfl, hwk0.out, hV0.out, by go_num, .inl ⟨hT0.out.symm, rfl⟩, hsw.out⟩
   case round =>
    clear hsw hwk0 hV0 hT0
    obtain ⟨T, n', rfl, hwk, hV1, rfl, hor, hsw⟩ := hrel
    have hroom := hwk.room hlen
    have hdl : T.d.length ≤ 24 := by have := hwk.few; omega
    replace hwk := Lib.hid hwk
    replace hV1 := Lib.hid hV1
    replace hor := Lib.hid hor
    have hsw0 := Lib.hid hsw
    obtain ⟨⟨a1, cap1, hA, hpx, hap⟩, hZ, hown, hbx, hsrc⟩ := hsw
    have hsr := hsrc _ _ hA
    replace hsr := Lib.hid hsr
    clear hsrc
    replace hpx := Lib.hid hpx
    replace hown := Lib.hid hown
    replace hap := Lib.hid hap
    go_upto_region 10 with (first | go_skip | (refine ld_row 29 _ rfl rfl _ rfl _ _ _ _ hA Try.underlying29 rfl info30 ?_) | (go_at_call 82; refine (queueOf_any T.h T.l a1 cap1 (m : Int) _ hpx.out).mono ?_; rintro e w1 ⟨⟨v, xs, rfl, hq, hxo⟩, hb1⟩))
    have hxs := hq.eq (hwk.out.nodup hnd.out)
    have hls : LsAt w u4 xs w1 v := LsAt.own hxo (by have := hlt hZ; omega) (fun x hx => hown.out.ownlt hx)
    have hsw1 := hsw0.out.later hb1
    have hA1 := hkeep hb1 hA
    have hpx1 := hpx.out.below hb1
    have hown1 := Lib.hid (hown.out.below hb1)
    replace hsw1 := Lib.hid hsw1
    clear hA hpx hap hZ hown hbx hq hxo hb1 hsw0
    cases xs with
    | nil =>
     obtain ⟨al, cal, rfl, hil, _⟩ := hls
     have hI2 : Idle ((k % 4 : Nat) : Int) T := fun i xs h => by rw [hm.out, ← hxs] at h; cases h
     have hVV : visits (k + 1) S = T := by rw [eV.out, hV1.out, visit_nil hxs.symm]
     replace hVV := Lib.hid hVV
     replace hxs := Lib.hid hxs
     replace hil := Lib.hid hil
     replace hI2 := Lib.hid hI2
     replace hpx1 := Lib.hid hpx1
     go_wp2_with fail
     go_big_quiet (fail)
     have hsw2 := hsw1.out.later (below_drewN (Below.refl _ _) nq)
     replace hsw2 := Lib.hid hsw2
     have hfin := house_round (n' := n') (hVV.out) hI2.out hidl.out hor.out h4
     obtain ⟨f1, f2, f3⟩ := hfin
     replace f1 := Lib.hid f1
     replace f2 := Lib.hid f2
     go_wp2_with fail
     go_roundg (5 * waiting (visits (k + 1) S).l + (4 - n'))
     case measure => exact f2.out
     case rel => exact ⟨k + 1, n', f3, rfl, rfl, by rw [hmod.out]; go_num, f1.out, by rw [hVV.out]; exact hsw2.out⟩
    | cons i ys =>
     obtain ⟨bl, ol, cal, rfl, hli, hcl1, hcl2, hlap⟩ := hls.head
     obtain ⟨hiT, hst, hfr⟩ := (ofL_mem (l := T.l) (bank := (m : Int)) (i := i)).1 (by rw [← hxs]; simp)
     have hpi := payAt_get hiT
     obtain ⟨p, ep⟩ : ∃ p, payAt T.l i = p := ⟨_, rfl⟩
     rw [ep] at hpi hst hfr
     have hmay : T.may i = mayB T.h (m : Int) p.to p.amt := by simp only [St.may, ep, hfr]
     obtain ⟨bp, op, rfl, hbl, _⟩ := hpx1.row (by omega)
     have hcx := calm_cells hA1
     have hlx : ∀ x : Wd (Below w1.heap.size w1), x.w.cell? ⟨bl, ol, none⟩ = some (.int .i64 i) := fun x => (x.ok.cell (p := ⟨bl, ol, none⟩) (World.block_lt_of_cell? _ _ hli)).trans hli
     have hp1 : ∀ x : Wd (Below w1.heap.size w1), x.w.cell? ⟨bp, op + i * 6 + 1, none⟩ = some (.int .i64 p.to) := fun x => ((hpx1.below x.ok).six hpi).2.1
     have hp2 : ∀ x : Wd (Below w1.heap.size w1), x.w.cell? ⟨bp, op + i * 6 + 2, none⟩ = some (.int .i64 p.amt) := fun x => ((hpx1.below x.ok).six hpi).2.2.1
     have hml : (T.l.length : Int) ≤ 9223372036854775807 := by have h1 := hpx1.le; have h2 := hpx1.capm; unfold maxLen at h2; omega
     have hii : (i : Int) < (T.l.length : Int) := by omega
     have hy0 : (0 : Int) < ((ys.length : Nat) : Int) + 1 := by omega
     have hyz : (((ys.length : Nat) : Int) + 1 == 0) = false := by rw [beq_eq_false_iff_ne]; omega
     have hls1 := Lib.hid hls
     replace hxs := Lib.hid hxs
     replace ep := Lib.hid ep
     replace hpi := Lib.hid hpi
     replace hst := Lib.hid hst
     replace hfr := Lib.hid hfr
     replace hls := Lib.hid hls
     replace hpx1 := Lib.hid hpx1
     cases hmy : T.may i
     ·have hmy2 := hmay.symm.trans hmy
      have hI2 : Idle ((k % 4 : Nat) : Int) T := fun j zs h => by rw [hm.out, ← hxs.out] at h; cases h; exact hmy
      have hVV : visits (k + 1) S = T := by rw [eV.out, hV1.out, visit_no hxs.out.symm hmy]
      replace hVV := Lib.hid hVV
      replace hI2 := Lib.hid hI2
      replace hmy := Lib.hid hmy
      replace hmy2 := Lib.hid hmy2
      replace hmay := Lib.hid hmay
      refine calm_region (Below w1.heap.size w1) (by kernel_rfl) (by kernel_rfl) (calm_start w1) ?_
      repeat (first | go_big_quiet_skip | (go_big_quiet_want; first | (refine calm_row 29 _ rfl _ rfl _ _ _ _ (calm_heap hA1) Try.underlying29 rfl info30 ?_; (try simp only [Act.put]); (try simp only [List.setIfInBounds_toArray]); (try simp only [List.set_cons_succ]); (try simp only [List.set_cons_zero]); go_big_quiet_on) | (go_big_quiet_op; first | go_big_quiet_on | go_big_quiet_call (first | (go_at_call 84; exact calm_call (calm_below _) (maySend_val hmy2.out _ _ hroom))))))
      refine wpQuiet_nil ?_
      intro w2 hI
      have hsw2 := hsw1.out.later hI
      replace hsw2 := Lib.hid hsw2
      clear hcx hlx hp1 hp2
      have hfin := house_round (n' := n') (hVV.out) hI2.out hidl.out hor.out h4
      obtain ⟨f1, f2, f3⟩ := hfin
      replace f1 := Lib.hid f1
      replace f2 := Lib.hid f2
      go_wp2_with fail
      go_roundg (5 * waiting (visits (k + 1) S).l + (4 - n'))
      case measure => exact f2.out
      case rel => exact ⟨k + 1, n', f3, rfl, rfl, by rw [hmod.out]; go_num, f1.out, by rw [hVV.out]; exact hsw2.out⟩
     ·have hmy2 := hmay.symm.trans hmy
      have hVT : V = visit (m : Int) (T.settle i) := by rw [hV1.out, visit_yes (hwk.out.nodup hnd.out) hxs.out.symm hmy]
      have hwt := waiting_settled hiT (by rw [ep.out]; exact hst.out)
      have hwk2 := hwk.out.settle hiT (by rw [ep.out]; exact hst.out)
      have hdn : nats (T.settle i).d = nats T.d ++ [(i : Int)] := by simp [nats, St.settle]
      have hwl : waiting (T.settle i).l < waiting (visits k S).l := by
       show waiting (settled T.l i) < _
       rcases hor.out with ⟨h, _⟩ | ⟨_, h⟩
       ·rw [← h]; omega
       ·omega
      have hwm : waiting (T.settle i).l < waiting T.l := by show waiting (settled T.l i) < _; omega
      replace hmy := Lib.hid hmy
      replace hmy2 := Lib.hid hmy2
      replace hmay := Lib.hid hmay
      replace hVT := Lib.hid hVT
      replace hwt := Lib.hid hwt
      replace hwk2 := Lib.hid hwk2
      replace hdn := Lib.hid hdn
      replace hwl := Lib.hid hwl
      refine calm_region (Below w1.heap.size w1) (by kernel_rfl) (by kernel_rfl) (calm_start w1) ?_
      repeat (first | go_big_quiet_skip | (go_big_quiet_want; first | (refine calm_row 29 _ rfl _ rfl _ _ _ _ (calm_heap hA1) Try.underlying29 rfl info30 ?_; (try simp only [Act.put]); (try simp only [List.setIfInBounds_toArray]); (try simp only [List.set_cons_succ]); (try simp only [List.set_cons_zero]); go_big_quiet_on) | (go_big_quiet_op; first | go_big_quiet_on | go_big_quiet_call (first | (go_at_call 84; exact calm_call (calm_below _) (maySend_val hmy2.out _ _ hroom))))))
      refine wpQuiet_nil ?_
      intro w2 hI
      have hsw2 := Lib.hid (hsw1.out.later hI)
      have hls2 := Lib.hid (hls1.out.later hI)
      have hA2 := Lib.hid (hkeep hI hA1)
      have hpx2 := hpx1.out.below hI
      have hli2 := hlx ⟨w2, hI⟩
      have cS : ∀ w', Below w2.heap.size w2 w' → Calls Try.prog 83 #[.agg (hc T.h (.slice (some ⟨bp, op, none⟩) T.l.length cap1)), .int .i64 i] w' fun e w3 => ∃ a2 cap2, e = .returned (.agg (hc (T.settle i).h (.slice a2 T.l.length cap2))) ∧ PaysAt w3 a2 cap2 (settled T.l i) ∧ (∀ b off s, a2 = some ⟨b, off, s⟩ → w2.heap.size ≤ b) ∧ Below w'.heap.size w' w3 := fun w' hb =>
       (settlePay_yes T.h T.l (some ⟨bp, op, none⟩) cap1 i w' (hpx2.below hb) hroom hiT (by rw [ep.out]; exact hst.out)).mono fun e w3 ⟨⟨a2, cap2, he, hp2, hf2⟩, hb2⟩ => ⟨a2, cap2, by rw [settled_len] at he; exact he, hp2, fun b off s e => Nat.le_trans hb.size (hf2 b off s e), hb2⟩
      have hcI : ∀ w', Below w2.heap.size w2 w' → w'.cell? ⟨bl, ol, none⟩ = some (.int .i64 i) := fun w' hb => (hb.cell (p := ⟨bl, ol, none⟩) (World.block_lt_of_cell? _ _ hli2)).trans hli2
      replace cS := Lib.hid cS
      replace hcI := Lib.hid hcI
      clear hcx hlx hp1 hp2 hpx2 hI hli2 hA1 hli hsw1 hls1 hown1
      go_upto_region 11 with fail
      refine wpG_start (Below w2.heap.size w2) 4 (by kernel_rfl) ?_
      have hI0 : Below w2.heap.size w2 w2.drew := (Below.refl _ _).drew
      refine wpG_first (i := 0) (oi := _) (v := (.agg (hc T.h (.slice (some ⟨bp, op, none⟩) T.l.length cap1)))) [0] rfl (by kernel_rfl) (by kernel_rfl) (by kernel_rfl) (by kernel_rfl) (fun _ _ _ h => h) hI0 ?hy0 ?rs0
      case hy0 => exact yields_row 29 _ rfl rfl _ rfl _ _ _ _ (fun w' hb => hkeep hb hA2.out) Try.underlying29 rfl info30
      (try simp only [Act.put, List.setIfInBounds_toArray, List.set_cons_succ, List.set_cons_zero])
      refine wpG_first (i := 1) (oi := _) (v := (.slice (some ⟨bl, ol, none⟩) (ys.length + 1) cal)) [3, 2, 1] rfl (by kernel_rfl) (by kernel_rfl) (by kernel_rfl) (by kernel_rfl) (fun _ _ _ h => h) hI0 ?hy1 ?rs1
      case hy1 => exact Or.inl ⟨by rfl, by intro w' hb; have hcw := hcI.out w' hb; go_simp⟩
      (try simp only [Act.put, List.setIfInBounds_toArray, List.set_cons_succ, List.set_cons_zero])
      refine wpG_first (i := 2) (oi := _) (v := (.pointer (some ⟨bl, ol, none⟩))) [3, 2] rfl (by kernel_rfl) (by kernel_rfl) (by kernel_rfl) (by kernel_rfl) (fun _ _ _ h => h) hI0 ?hy2 ?rs2
      case hy2 => exact Or.inl ⟨by rfl, by intro w' hb; have hcw := hcI.out w' hb; go_simp⟩
      (try simp only [Act.put, List.setIfInBounds_toArray, List.set_cons_succ, List.set_cons_zero])
      refine wpG_first (i := 3) (oi := _) (v := (.int .i64 i)) [3] rfl (by kernel_rfl) (by kernel_rfl) (by kernel_rfl) (by kernel_rfl) (fun _ _ _ h => h) hI0 ?hy3 ?rs3
      case hy3 => exact Or.inl ⟨by rfl, by intro w' hb; have hcw := hcI.out w' hb; go_simp⟩
      (try simp only [Act.put, List.setIfInBounds_toArray, List.set_cons_succ, List.set_cons_zero])
      refine wpG_drop 4 rfl (by kernel_rfl) ?_
      simp only [List.drop_succ_cons, List.drop_zero]
      go_upto_region 12 with (first | go_skip | (go_at_call 83; refine (cS.out _ hI0).mono ?_; rintro e w3 ⟨a2, cap2, rfl, hp2, hf2, hb2⟩) | (refine st_row 29 _ _ rfl rfl _ rfl _ rfl _ _ (hkeep (hI0.trans (hb2.mono hI0.size)) hA2.out) info30 rfl (hc_one _ _ rfl) ?_; intro w4 hr4 hgr4 hsz4))
      obtain ⟨hsw4, hls4⟩ := SwAt.stored hsw2.out hls2.out (hI0.trans (hb2.mono hI0.size)) hp2 hf2 hgr4 hr4
      obtain ⟨bl', ol', cal', e', hli4, _, _, _⟩ := hls4.head
      simp only [Value.slice.injEq, Option.some.injEq, Addr.mk.injEq] at e'
      obtain ⟨⟨rfl, rfl, _⟩, _, rfl⟩ := e'
      have hoX := Lib.hid (hsw4.done.alloc (.cells #[.int .i64 (i : Int)] 3))
      have hsX := Lib.hid (hsw4.later ((Below.refl _ _).alloc (Nat.le_refl _) (.cells #[.int .i64 (i : Int)] 3)))
      have hsz5 := hsw4.below.size
      have hz5 := hlt hsw4.res
      replace hsw4 := Lib.hid hsw4
      replace hls4 := Lib.hid hls4
      clear hr4 hgr4 hsz4 hp2 hf2 hb2
      go_wp2_with (first | go_skip | (at_builtin; refine wpList_append_fresh _ rfl _ _ 42 rfl (w.heap.size + 2) 3 i0 z 1 8 Try.underlying42 hi hz0 hz1 hz2 hz3 (by decide) u4 (nats T.d).length (icells (nats T.d)) rfl hoX.out.1 ⟨w4.heap.size, 0, none⟩ 1 1 [.int .i64 (i : Int)] rfl rfl ?c1 ?c2 ?c3 ?c4 ?c5 ?_))
      case c2 => rfl
      case c3 => rw [nats_len]; simp only [maxLen]; omega
      case c4 => rw [nats_len]; omega
      case c5 => omega
      intro v' w5 hownv hgr hv
      have hO3 : OwnInts w5 (w.heap.size + 2) v' (nats (T.d ++ [i])) := by
       have : nats (T.d ++ [i]) = nats T.d ++ [(i : Int)] := hdn.out
       rw [this]
       exact OwnInts.snoc rfl (by rw [nats_len]; omega) hownv
      have hsw5 : SwAt a0 w (T.settle i) w5 v' := SwAt.noted hsX.out hgr hO3 (fun x hx => by first | exact hv x hx | simpa using hv x hx)
      replace hownv := Lib.hid hownv
      replace hsw5 := Lib.hid hsw5
      clear hgr hv hO3
      go_wp2_with fail
      go_roundg (waiting (T.settle i).l)
      case measure => exact hwm
      case rel => exact ⟨T.settle i, 0, rfl, hwk2.out, hVT.out, rfl, .inr ⟨rfl, hwl.out⟩, hsw5.out⟩
  ·obtain rfl : n = 4 := by omega
   have hR := rests_of_four hidl
   have hfin := sweep_of_rests hnd.out hR
   obtain ⟨T, hT⟩ : ∃ T, visits k S = T := ⟨_, rfl⟩
   rw [hT] at hsw hfin
   rw [hF.out] at hfin
   subst hfin
   replace hT := Lib.hid hT
   obtain ⟨⟨a1, cap1, hA, hpx, hap⟩, hZ, hown, hbx, hsrc⟩ := hsw
   have hsr := hsrc _ _ hA
   replace hsr := Lib.hid hsr
   clear hsrc
   have hl1 := hlt hZ
   replace hpx := Lib.hid hpx
   replace hown := Lib.hid hown
   clear hidl hR
   go_wp2_with (first | go_skip | (refine ld_row 29 _ rfl rfl _ rfl _ _ _ _ hA Try.underlying29 rfl info30 ?_) | (refine st_row 29 _ _ rfl rfl _ rfl _ rfl _ _ hZ info30 rfl (hc_one _ _ rfl) ?_; intro w5 hr5 hgr5 hsz5))
   refine bodyPost_ret (results_house2 rfl _ _ _ _ _ rfl hr5) rfl ⟨⟨a1, cap1, u4, rfl, ?_, ?_, by rw [← ea0.out]; exact hsr.out, fun hl b off s e => (hap hl b off s e).2.2⟩, ?_⟩
   ·exact hpx.out.grownO hgr5 hap
   ·exact (hown.out.grownP hgr5 (by omega)).mono (by omega)
   ·exact hbx.grown hgr5 hbx.size fun k hk => by cases hk; omega
end Go.Proofs.Ytggfdkkhlokmlab

namespace Go.Proofs.Ytggfdkkhlokmlab
open Go.RowKit
attribute [local go_sem] hc_pays hc_next hc_size pc_0 pc_1 pc_2 pc_3 pc_4 pc_5
set_option maxRecDepth 100000 in
set_option maxHeartbeats 1000000 in
theorem sweep_bad (h : Hs) (l : List Pay) (a : Option Addr) (cap : Nat) (w : World) (hp : PaysAt w a cap l) (hgb : goodB h l = false) :
  Calls Try.prog 62 #[.agg (hc h (.slice a l.length cap))] w (SweepPostS a ⟨h, l, []⟩ w) := by
 replace hgb := Lib.hid hgb
 replace hp := Lib.hid hp
 go_enter Try.func62, Try.ntmps62
 go_upto_region 1 with fail
 generalize hW : World.alloc (World.alloc w _) _ = W0
 have hgA : W0.heap[w.heap.size]? = some (.cells (hc h (.slice a l.length cap)) 29 (0, 0)) := by rw [← hW]; exact heap_alloc2_old w _ _
 have hgZ : W0.heap[w.heap.size + 1]? = some (.cells (hc Hs.zero (.slice none 0 0)) 29 (0, 0)) := by rw [← hW]; exact heap_alloc2_new w _ _
 have hB : Below w.heap.size w W0 := by rw [← hW]; exact ((Below.refl w.heap.size w).alloc (Nat.le_refl _) _).alloc (by simp) _
 have hp0 := hp.out.below hB
 clear hW
 go_wp2_with (first | go_skip | (refine ld_row 29 _ rfl rfl _ rfl _ _ _ _ hgA Try.underlying29 rfl info30 ?_) | (go_at_call 15; refine (good_any h l _ cap _ hp0).mono ?_; rintro e w1 ⟨rfl, hb1⟩; rw [hgb.out]) | (refine ld_row 29 _ rfl rfl _ rfl _ _ _ _ (hkeep hb1 hgA) Try.underlying29 rfl info30 ?_) | (refine st_row 29 _ _ rfl rfl _ rfl _ rfl _ _ (hkeep hb1 hgZ) info30 rfl (hc_one _ _ rfl) ?_; intro w5 hr5 hgr5 hsz5))
 have hZ1 := hkeep hb1 hgZ
 have hB1 : Below w.heap.size w w1 := hB.trans (hb1.mono hB.size)
 have hB5 : Below w.heap.size w w5 := hB1.grown hgr5 hB1.size (fun k hk => by cases hk; omega)
 exact bodyPost_ret (results_house2 rfl _ _ _ _ _ rfl hr5) rfl ⟨⟨a, cap, .slice none 0 0, rfl, hp.out.below hB5, OwnInts.nil _ _, fun b off s e => .inl ⟨off, s, e⟩, fun _ _ _ _ _ => by simp [Value.ownBlock]⟩, hB5⟩
set_option maxRecDepth 100000 in
set_option maxHeartbeats 1000000 in
theorem sweepHouse_bad (h : Hs) (l : List Pay) (a : Option Addr) (cap : Nat) (w : World) (hp : PaysAt w a cap l) (hgb : goodB h l = false) :
  Calls Try.prog 67 #[.agg (hc h (.slice a l.length cap))] w (SweepPostS a ⟨h, l, []⟩ w) := by
 replace hgb := Lib.hid hgb
 replace hp := Lib.hid hp
 go_enter Try.func67, Try.ntmps67
 go_upto_region 1 with fail
 generalize hW : World.alloc (World.alloc w _) _ = W0
 have hgA : W0.heap[w.heap.size]? = some (.cells (hc h (.slice a l.length cap)) 29 (0, 0)) := by rw [← hW]; exact heap_alloc2_old w _ _
 have hgZ : W0.heap[w.heap.size + 1]? = some (.cells (hc Hs.zero (.slice none 0 0)) 29 (0, 0)) := by rw [← hW]; exact heap_alloc2_new w _ _
 have hB : Below w.heap.size w W0 := by rw [← hW]; exact ((Below.refl w.heap.size w).alloc (Nat.le_refl _) _).alloc (by simp) _
 have hp0 := hp.out.below hB
 clear hW
 go_wp2_with (first | go_skip | (refine ld_row 29 _ rfl rfl _ rfl _ _ _ _ hgA Try.underlying29 rfl info30 ?_) | (go_at_call 64; refine (isHouse_any h l _ cap _ hp0).mono ?_; rintro e w1 ⟨rfl, hb1⟩; rw [hgb.out]) | (refine ld_row 29 _ rfl rfl _ rfl _ _ _ _ (hkeep hb1 hgA) Try.underlying29 rfl info30 ?_) | (refine st_row 29 _ _ rfl rfl _ rfl _ rfl _ _ (hkeep hb1 hgZ) info30 rfl (hc_one _ _ rfl) ?_; intro w5 hr5 hgr5 hsz5))
 have hZ1 := hkeep hb1 hgZ
 have hB1 : Below w.heap.size w w1 := hB.trans (hb1.mono hB.size)
 have hB5 : Below w.heap.size w w5 := hB1.grown hgr5 hB1.size (fun k hk => by cases hk; omega)
 exact bodyPost_ret (results_house2 rfl _ _ _ _ _ rfl hr5) rfl ⟨⟨a, cap, .slice none 0 0, rfl, hp.out.below hB5, OwnInts.nil _ _, fun b off s e => .inl ⟨off, s, e⟩, fun _ _ _ _ _ => by simp [Value.ownBlock]⟩, hB5⟩
theorem sweep_anyS (h : Hs) (l : List Pay) (a : Option Addr) (cap : Nat) (w : World) (hp : PaysAt w a cap l) : Calls Try.prog 62 #[.agg (hc h (.slice a l.length cap))] w (SweepPostS a (sweepG h l) w) := by
 cases hg : goodB h l with
 | false => rw [show sweepG h l = ⟨h, l, []⟩ from by simp [sweepG, hg]]; exact sweep_bad h l a cap w hp hg
 | true => rw [show sweepG h l = sweepS ⟨h, l, []⟩ from by simp [sweepG, hg]]; exact sweep_good h l a cap w hp (goodB_true hg)
theorem sweepHouse_anyS (h : Hs) (l : List Pay) (a : Option Addr) (cap : Nat) (w : World) (hp : PaysAt w a cap l) : Calls Try.prog 67 #[.agg (hc h (.slice a l.length cap))] w (SweepPostS a (sweepG h l) w) := by
 cases hg : goodB h l with
 | false => rw [show sweepG h l = ⟨h, l, []⟩ from by simp [sweepG, hg]]; exact sweepHouse_bad h l a cap w hp hg
 | true => rw [show sweepG h l = sweepS ⟨h, l, []⟩ from by simp [sweepG, hg]]; exact sweepHouse_good h l a cap w hp (goodB_true hg)
end Go.Proofs.Ytggfdkkhlokmlab


