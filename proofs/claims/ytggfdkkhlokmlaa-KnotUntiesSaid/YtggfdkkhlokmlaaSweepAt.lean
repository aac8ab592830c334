/- Sweeping: what holds on the way, in numbers and in memory. -/
import Derived.Test.YtggfdkkhlokmlaaInvMath
import Derived.Test.YtggfdkkhlokmlaaOfWalk
import Derived.Test.YtggfdkkhlokmlaaSettle3
namespace Go.Proofs.Ytggfdkkhlokmlaa
open Go.RowKit
theorem results_house2 {fn : Func} {p u : Tmp} (hf : fn.results = #[.cell p 30, .tmp u]) (tmps : Array Value) (w : World) (g : Nat) (h : Hs) (s : Value)
    (hp : tmps.getD p undef = .pointer (some ⟨g, 0, none⟩)) (hg : w.heap[g]? = some (.cells (hc h s) 30 (0, 0))) : (results fn tmps).run Try.prog w = .ok (.tuple #[.agg (hc h s), tmps.getD u undef]) w := by
  rw [results_cell_tmp hf, hp]
  have h1 : (asAddr (.pointer (some ⟨g, 0, none⟩))).run Try.prog w = .ok ⟨g, 0, none⟩ w := rfl
  rw [h1, Result.andThen_ok, run_loadVar_row w g _ _ _ (0, 0) _ hg Try.underlying30 rfl info30]
  rfl
/-- A house on its way from S. -/
structure Wk (S T : St) : Prop where
  len : T.l.length = S.l.length
  seqs : T.l.map (·.seq) = S.l.map (·.seq)
  cnt : T.d.length + waiting T.l = waiting S.l
  near : Near T.h T.d.length
theorem GoodP.near {h : Hs} {l : List Pay} (g : GoodP h l) : Near h 0 where
  has := fun i h0 h1 => by have := sm_true (g.banks i h0 h1).has; omega
  cr := fun i h0 h1 => by have := sm_true (g.banks i h0 h1).cr; omega
  sent := fun i j h0 h1 h2 h3 => by have := sm_true ((g.banks i h0 h1).cells j h2 h3).1; omega
theorem Wk.start {h : Hs} {l : List Pay} (g : GoodP h l) : Wk ⟨h, l, []⟩ ⟨h, l, []⟩ := ⟨rfl, rfl, by simp, g.near⟩
theorem Wk.settle {S T : St} (k : Wk S T) {i : Nat} (hi : i < T.l.length) (h1 : (payAt T.l i).st = 1) : Wk S (T.settle i) where
  len := (settled_len T.l i).trans k.len
  seqs := (settle_seqs T i).trans k.seqs
  cnt := by
    have h2 := waiting_settled hi h1
    have h3 := k.cnt
    show (T.d ++ [i]).length + waiting (settled T.l i) = _
    rw [List.length_append, List.length_singleton]; omega
  near := by
    have := k.near.move (by omega) (payAt T.l i).frm (payAt T.l i).to (payAt T.l i).amt
    refine this.mono ?_
    show _ ≤ (((T.d ++ [i]).length : Nat) : Int)
    rw [List.length_append, List.length_singleton]; omega
theorem Wk.few {S T : St} (k : Wk S T) : T.d.length ≤ S.l.length := by have := k.cnt; have := waiting_le S.l; omega
theorem Wk.room {S T : St} (k : Wk S T) (h : S.l.length ≤ 24) : T.h.Room := k.near.room (by have := k.few; omega)
theorem Wk.nodup {S T : St} (k : Wk S T) (h : (S.l.map (·.seq)).Nodup) : (T.l.map (·.seq)).Nodup := by rw [k.seqs]; exact h
theorem wk_visits {S : St} (k0 : Wk S S) (hn : (S.l.map (·.seq)).Nodup) (k : Nat) : Wk S (visits k S) :=
  visits_ind (Wk S) (fun T hT => hT.nodup hn) (fun b T i xs _ hT hq _ => by
    have hi := (ofL_mem (l := T.l) (bank := b) (i := i)).1 (by rw [hq]; simp)
    exact hT.settle hi.1 hi.2.1) S k0 k
theorem visits_succ (S : St) {r m : Nat} (h : m < 4) : visits (4 * r + m + 1) S = visit (m : Int) (visits (4 * r + m) S) := by
  show visit _ _ = _
  rw [show (4 * r + m) % 4 = m from by omega]

/-! ### in memory -/
/-- What lies at a leads neither to the two variables nor to the list v. -/
def Apart (w : World) (v : Value) (a : Option Addr) (n : Nat) : Prop := 0 < n → ∀ b off s, a = some ⟨b, off, s⟩ → b ≠ w.heap.size ∧ b ≠ w.heap.size + 1 ∧ v.ownBlock ≠ some b
/-- The variable h holds the house T on its way; v: what was done. -/
structure SwAt (w : World) (T : St) (wr : World) (v : Value) : Prop where
  box : ∃ a cap, wr.heap[w.heap.size]? = some (.cells (hc T.h (.slice a T.l.length cap)) 30 (0, 0)) ∧ PaysAt wr a cap T.l ∧ Apart w v a T.l.length
  res : wr.heap[w.heap.size + 1]? = some (.cells (hc Hs.zero (.slice none 0 0)) 30 (0, 0))
  done : OwnInts wr (w.heap.size + 2) v (nats T.d)
  below : Below w.heap.size w wr
theorem SwAt.later {w wr wx : World} {T : St} {v : Value} (k : SwAt w T wr v) (hb : Below wr.heap.size wr wx) : SwAt w T wx v :=
  let ⟨a, cap, h1, h2, h3⟩ := k.box
  ⟨⟨a, cap, hkeep hb h1, h2.below hb, h3⟩, hkeep hb k.res, k.done.below hb, k.below.trans (hb.mono k.below.size)⟩
/-- The slice u holds the indexes xs. -/
def LsAt (w : World) (v : Value) (xs : List Nat) (wr : World) (u : Value) : Prop := ∃ a cap, u = .slice a xs.length cap ∧ IntsAt wr a cap (nats xs) ∧ Apart w v a xs.length
theorem LsAt.later {w wr wx : World} {v u : Value} {xs : List Nat} (k : LsAt w v xs wr u) (hb : Below wr.heap.size wr wx) : LsAt w v xs wx u :=
  let ⟨a, cap, h1, h2, h3⟩ := k
  ⟨a, cap, h1, h2.below hb, h3⟩
theorem OwnInts.ownlt {w : World} {base : Nat} {v : Value} {l : List Int} (h : OwnInts w base v l) {x : Nat} (hx : v.ownBlock = some x) : x < w.heap.size := by
  rcases h.1.2 with ⟨rfl, _⟩ | ⟨g', cap, cur, rfl, hb', hg, _⟩
  · simp [Value.ownBlock] at hx
  · simp [Value.ownBlock] at hx; have := hlt hg; omega
theorem LsAt.own {w wr : World} {v u : Value} {xs : List Nat} {base : Nat} (h : OwnInts wr base u (nats xs)) (h2 : w.heap.size + 2 ≤ base) (hv : ∀ x, v.ownBlock = some x → x < base) : LsAt w v xs wr u := by
  obtain ⟨a, cap, rfl, hi, hb⟩ := h.at_
  rw [nats_len] 
  exact ⟨a, cap, rfl, hi, fun _ b off s e => ⟨by have := hb b off s e; omega, by have := hb b off s e; omega, fun e' => by have := hb b off s e; have := hv b e'; omega⟩⟩
theorem LsAt.head {w wr : World} {v u : Value} {i : Nat} {xs : List Nat} (k : LsAt w v (i :: xs) wr u) : ∃ b o cap, u = .slice (some ⟨b, o, none⟩) (xs.length + 1) cap ∧ wr.cell? ⟨b, o, none⟩ = some (.int .i64 (i : Int)) ∧ xs.length + 1 ≤ cap ∧ cap ≤ maxLen ∧ (b ≠ w.heap.size ∧ b ≠ w.heap.size + 1 ∧ v.ownBlock ≠ some b) := by
  obtain ⟨a, cap, rfl, hi, ha⟩ := k
  obtain ⟨b, o, rfl, hb, hc⟩ := hi.row (by simp [nats])
  have h1 := hi.le
  rw [nats_len] at h1
  exact ⟨b, o, cap, rfl, by have := hc 0 i (by simp [nats]); simpa using this, h1, hi.capm, ha (by simp) b o none rfl⟩
theorem LsAt.tail {w wr : World} {v : Value} {i b o cap : Nat} {xs : List Nat} (k : LsAt w v (i :: xs) wr (.slice (some ⟨b, o, none⟩) (xs.length + 1) cap)) (a' : Option Addr) (ha : 0 < xs.length → a' = some ⟨b, o + 1, none⟩) (hn : a' ≠ none) : LsAt w v xs wr (.slice a' xs.length (cap - 1)) := by
  obtain ⟨a, cap', e, hi, hap⟩ := k
  obtain ⟨rfl, _, rfl⟩ : a = some ⟨b, o, none⟩ ∧ True ∧ cap' = cap := by
    simp only [Value.slice.injEq] at e; exact ⟨e.1.symm, trivial, e.2.2.symm⟩
  have h1 := hi.le
  have h2 := hi.capm
  have h3 := hi.room
  simp only [nats_len, List.length_cons] at h1 h3
  refine ⟨a', cap' - 1, rfl, ⟨by rw [nats_len]; omega, by omega, by rw [nats_len]; omega, fun e => absurd e hn, fun hl => ?_⟩, fun hl b' off s e => ?_⟩
  · rw [nats_len] at hl
    obtain ⟨b', o', e', hb, hc⟩ := hi.row (by simp [nats])
    cases e'
    refine ⟨b, o + 1, ha hl, hb, fun j n hj => ?_⟩
    have := hc (j + 1) n (by simpa [nats] using hj)
    rw [Nat.add_assoc, Nat.add_comm 1 j]
    exact this
  · rw [ha hl] at e
    cases e
    exact hap (by simp) b o none rfl
/-- Behind a store into one of the two variables. -/
theorem PaysAt.grownO {w wr wx : World} {v : Value} {a : Option Addr} {cap : Nat} {l : List Pay} {g : Nat} (h : PaysAt wr a cap l) (hg : wr.grownBy wx (some g)) (ha : Apart w v a l.length) (he : g = w.heap.size ∨ g = w.heap.size + 1 := by omega) : PaysAt wx a cap l :=
  ⟨h.le, h.capm, h.room, h.nil0, fun hl => let ⟨b, off, e, hbl, hc⟩ := h.row hl
    ⟨b, off, e, Nat.lt_of_lt_of_le hbl hg.size, fun i p hp j v hv => (World.cell?_of_block (hg.block b hbl (fun e' => by
      have h2 := ha hl b off none e
      simp only [Option.some.injEq] at e'
      omega))).trans (hc i p hp j v hv)⟩⟩
theorem OwnInts.grownP {w w' : World} {base : Nat} {v : Value} {l : List Int} {g : Nat} (h : OwnInts w base v l) (hg : w.grownBy w' (some g)) (hne : g < base) : OwnInts w' base v l := by
  obtain ⟨⟨hlen, hv⟩, hroom⟩ := h
  refine ⟨⟨hlen, ?_⟩, hroom⟩
  rcases hv with h0 | ⟨g', cap, cur, rfl, hb', hg', hrest⟩
  · exact .inl h0
  · exact .inr ⟨g', cap, cur, rfl, hb', (hg.block _ (hlt hg') (by simp; omega)).trans hg', hrest⟩
/-- Behind one settling: the house and its payments are new, the list has grown by one. -/
theorem SwAt.step {w w1 X w3 w4 : World} {T : St} {v v' u : Value} {i : Nat} {xs : List Nat} {a2 : Option Addr} {cap2 : Nat} (k : SwAt w T w1 v) (hls : LsAt w v xs w1 u) (hX : Below w1.heap.size w1 X)
    (hp2 : PaysAt X a2 cap2 (settled T.l i)) (hf2 : ∀ b off s, a2 = some ⟨b, off, s⟩ → w1.heap.size ≤ b)
    (hgr : X.grownBy w3 v.ownBlock) (hO3 : OwnInts w3 (w.heap.size + 2) v' (nats (T.settle i).d)) (hv : ∀ x, v'.ownBlock = some x → v.ownBlock = some x ∨ X.heap.size ≤ x)
    (hgr4 : w3.grownBy w4 (some w.heap.size)) (hr4 : w4.heap[w.heap.size]? = some (.cells (hc (T.settle i).h (.slice a2 T.l.length cap2)) 30 (0, 0))) : SwAt w (T.settle i) w4 v' ∧ LsAt w v' xs w4 u := by
  have hvo : ∀ x, v.ownBlock = some x → w.heap.size + 2 ≤ x ∧ x < w1.heap.size := fun x hx => ⟨k.done.own hx, k.done.ownlt hx⟩
  have hz := hlt k.res
  have hXs := hX.size
  have tr : ∀ b, b < X.heap.size → v.ownBlock ≠ some b → b ≠ w.heap.size → w4.heap[b]? = X.heap[b]? := fun b hb hne hbo =>
    (hgr4.block b (Nat.lt_of_lt_of_le hb hgr.size) (by simpa using hbo)).trans (hgr.block b hb (fun e => hne e.symm))
  have hw4 : X.heap.size ≤ w4.heap.size := Nat.le_trans hgr.size hgr4.size
  refine ⟨⟨⟨a2, cap2, ?_, ?_, ?_⟩, ?_, hO3.grownP hgr4 (by omega), ?_⟩, ?_⟩
  · show w4.heap[w.heap.size]? = some (.cells (hc (T.settle i).h (.slice a2 (settled T.l i).length cap2)) 30 (0, 0))
    rw [settled_len]; exact hr4
  · refine ⟨hp2.le, hp2.capm, hp2.room, hp2.nil0, fun hl => ?_⟩
    obtain ⟨b, off, e, hbl, hc⟩ := hp2.row hl
    have hb1 := hf2 b off none e
    exact ⟨b, off, e, by omega, fun j p hp n x hx => (World.cell?_of_block (tr b hbl (fun e' => by have := hvo b e'; omega) (by omega))).trans (hc j p hp n x hx)⟩
  · intro hl b off s e
    obtain ⟨b', off', e', hbl, _⟩ := hp2.row hl
    have hb1 := hf2 b off s e
    rw [e] at e'
    cases e'
    exact ⟨by omega, by omega, fun e2 => by
      rcases hv b e2 with h | h
      · have := hvo b h; omega
      · omega⟩
  · rw [tr _ (by omega) (fun e => by have := hvo _ e; omega) (by omega)]
    exact hkeep hX k.res
  · have h1 : Below w.heap.size w X := k.below.trans (hX.mono k.below.size)
    have h2 : Below w.heap.size w w3 := h1.grown hgr h1.size fun x hx => by have := hvo x hx; omega
    exact h2.grown hgr4 h2.size fun x hx => by cases hx; exact Nat.le_refl _
  · obtain ⟨a, cap, e, hi, ha⟩ := hls
    refine ⟨a, cap, e, ⟨hi.le, hi.capm, hi.room, hi.nil0, fun hl => ?_⟩, fun hl b off s e2 => ?_⟩
    · obtain ⟨b, off, e2, hbl, hc⟩ := hi.row hl
      rw [nats_len] at hl
      obtain ⟨h1, h2, h3⟩ := ha hl b off none e2
      exact ⟨b, off, e2, by omega, fun j n hj => (World.cell?_of_block (tr b (by omega) h3 h1)).trans ((hX.cell (p := ⟨b, _, none⟩) hbl).trans (hc j n hj))⟩
    · obtain ⟨h1, h2, h3⟩ := ha hl b off s e2
      obtain ⟨b', off', e', hbl, _⟩ := hi.row (by rw [nats_len]; exact hl)
      rw [e2] at e'
      cases e'
      exact ⟨h1, h2, fun e3 => by
        rcases hv b e3 with h | h
        · exact h3 h
        · omega⟩
/-- Behind a store of a settled house alone. -/
theorem SwAt.stored {w w1 X w4 : World} {T : St} {v u : Value} {i : Nat} {xs : List Nat} {a2 : Option Addr} {cap2 : Nat} (k : SwAt w T w1 v) (hls : LsAt w v xs w1 u) (hX : Below w1.heap.size w1 X)
    (hp2 : PaysAt X a2 cap2 (settled T.l i)) (hf2 : ∀ b off s, a2 = some ⟨b, off, s⟩ → w1.heap.size ≤ b) (hgr4 : X.grownBy w4 (some w.heap.size))
    (hr4 : w4.heap[w.heap.size]? = some (.cells (hc (T.settle i).h (.slice a2 T.l.length cap2)) 30 (0, 0))) : SwAt w ⟨(T.settle i).h, (T.settle i).l, T.d⟩ w4 v ∧ LsAt w v xs w4 u := by
  have hvo : ∀ x, v.ownBlock = some x → w.heap.size + 2 ≤ x ∧ x < w1.heap.size := fun x hx => ⟨k.done.own hx, k.done.ownlt hx⟩
  have hz := hlt k.res
  have hXs := hX.size
  have tr : ∀ b, b < X.heap.size → b ≠ w.heap.size → w4.heap[b]? = X.heap[b]? := fun b hb hbo => hgr4.block b hb (by simpa using hbo)
  have hw4 := hgr4.size
  refine ⟨⟨⟨a2, cap2, ?_, ?_, ?_⟩, ?_, (k.done.below hX).grownP hgr4 (by omega), ?_⟩, ?_⟩
  · show w4.heap[w.heap.size]? = some (.cells (hc (T.settle i).h (.slice a2 (settled T.l i).length cap2)) 30 (0, 0))
    rw [settled_len]; exact hr4
  · refine ⟨hp2.le, hp2.capm, hp2.room, hp2.nil0, fun hl => ?_⟩
    obtain ⟨b, off, e, hbl, hc⟩ := hp2.row hl
    have hb1 := hf2 b off none e
    exact ⟨b, off, e, by omega, fun j p hp n x hx => (World.cell?_of_block (tr b hbl (by omega))).trans (hc j p hp n x hx)⟩
  · intro hl b off s e
    have hb1 := hf2 b off s e
    exact ⟨by omega, by omega, fun e2 => by have := hvo b e2; omega⟩
  · rw [tr _ (by omega) (by omega)]
    exact hkeep hX k.res
  · have h1 : Below w.heap.size w X := k.below.trans (hX.mono k.below.size)
    exact h1.grown hgr4 h1.size fun x hx => by cases hx; exact Nat.le_refl _
  · obtain ⟨a, cap, e, hi, ha⟩ := hls
    refine ⟨a, cap, e, ⟨hi.le, hi.capm, hi.room, hi.nil0, fun hl => ?_⟩, ha⟩
    obtain ⟨b, off, e2, hbl, hc⟩ := hi.row hl
    rw [nats_len] at hl
    obtain ⟨h1, _, _⟩ := ha hl b off none e2
    exact ⟨b, off, e2, by omega, fun j n hj => (World.cell?_of_block (tr b (by omega) h1)).trans ((hX.cell (p := ⟨b, _, none⟩) hbl).trans (hc j n hj))⟩
/-- Behind an append to the list alone. -/
theorem SwAt.noted {w w1 w3 : World} {T : St} {v v' : Value} {i : Nat} (k : SwAt w T w1 v) (hgr : w1.grownBy w3 v.ownBlock) (hO3 : OwnInts w3 (w.heap.size + 2) v' (nats (T.d ++ [i]))) (hv : ∀ x, v'.ownBlock = some x → v.ownBlock = some x ∨ w1.heap.size ≤ x) :
    SwAt w ⟨T.h, T.l, T.d ++ [i]⟩ w3 v' := by
  have hvo : ∀ x, v.ownBlock = some x → w.heap.size + 2 ≤ x ∧ x < w1.heap.size := fun x hx => ⟨k.done.own hx, k.done.ownlt hx⟩
  have hz := hlt k.res
  have tr : ∀ b, b < w1.heap.size → v.ownBlock ≠ some b → w3.heap[b]? = w1.heap[b]? := fun b hb hne => hgr.block b hb (fun e => hne e.symm)
  have hw3 := hgr.size
  obtain ⟨a, cap, hA, hp, hap⟩ := k.box
  refine ⟨⟨a, cap, ?_, ?_, ?_⟩, ?_, hO3, ?_⟩
  · rw [tr _ (by omega) (fun e => by have := hvo _ e; omega)]; exact hA
  · refine ⟨hp.le, hp.capm, hp.room, hp.nil0, fun hl => ?_⟩
    obtain ⟨b, off, e, hbl, hc⟩ := hp.row hl
    exact ⟨b, off, e, by omega, fun j p hp n x hx => (World.cell?_of_block (tr b hbl (hap hl b off none e).2.2)).trans (hc j p hp n x hx)⟩
  · intro hl b off s e
    obtain ⟨b', off', e', hbl, _⟩ := hp.row hl
    obtain ⟨h1, h2, h3⟩ := hap hl b off s e
    rw [e] at e'
    cases e'
    exact ⟨h1, h2, fun e2 => by
      rcases hv b e2 with h | h
      · exact h3 h
      · omega⟩
  · rw [tr _ (by omega) (fun e => by have := hvo _ e; omega)]; exact k.res
  · exact k.below.grown hgr k.below.size fun x hx => by have := hvo x hx; omega
end Go.Proofs.Ytggfdkkhlokmlaa
