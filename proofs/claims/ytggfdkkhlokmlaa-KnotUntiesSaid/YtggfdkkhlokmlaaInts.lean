/- Rows of ints of the call's own. -/
import Derived.Test.YtggfdkkhlokmlaaHouse
import Derived.Test.YtggfdkkhlokmlaaChecked
namespace Go.Proofs.Ytggfdkkhlokmlaa
open Go.RowKit
def icells (l : List Int) : List Value := l.map (Value.int .i64)
/-- Ints in a row of the call's own. -/
def OwnInts (w : World) (base : Nat) (v : Value) (l : List Int) : Prop := w.ownsRow base 3 1 v l.length (icells l) ∧ l.length * 8 ≤ 140737488355328
theorem info3z : ∃ (i : TypeInfo) (z : Value), Try.prog.info? 3 = some i ∧ i.zero = some z ∧ i.size = 1 ∧ i.bytes = 8 ∧ z.cells.size = 1 := by
  have h : (Try.prog.info? 3).map (fun i => (i.zero.map (·.cells.size), i.size, i.bytes)) = some (some 1, 1, 8) := by kernel_rfl
  cases hq : Try.prog.info? 3 with
  | none => simp [hq] at h
  | some i =>
    simp only [hq, Option.map_some, Option.some.injEq, Prod.mk.injEq] at h
    obtain ⟨h1, h2, h3⟩ := h
    cases hz : i.zero with
    | none => simp [hz] at h1
    | some z => exact ⟨i, z, rfl, hz, h2, h3, by simpa [hz] using h1⟩
theorem icells_get {l : List Int} {i : Nat} {n : Int} (h : l[i]? = some n) : (icells l)[i]? = some (.int .i64 n) := by simp [icells, h]
theorem icells_snoc (l : List Int) (n : Int) : icells (l ++ [n]) = icells l ++ [.int .i64 n] := by simp [icells]
theorem OwnInts.nil (w : World) (base : Nat) : OwnInts w base (.slice none 0 0) [] := ⟨⟨rfl, .inl ⟨rfl, rfl⟩⟩, by simp⟩
theorem OwnInts.at_ {w : World} {base : Nat} {v : Value} {l : List Int} (h : OwnInts w base v l) : ∃ a cap, v = .slice a l.length cap ∧ IntsAt w a cap l ∧ (∀ b off s, a = some ⟨b, off, s⟩ → base ≤ b) := by
  obtain ⟨⟨hlen, hv⟩, hroom⟩ := h
  rcases hv with ⟨rfl, h0⟩ | ⟨g, cap, cur, rfl, hb, hg, hn, hc, hsz, htake⟩
  · exact ⟨none, 0, by rw [h0], ⟨by omega, by simp [maxLen], hroom, fun _ => rfl, fun h => absurd h (by omega)⟩, by simp⟩
  · refine ⟨some ⟨g, 0, none⟩, cap, rfl, ⟨hn, hc, hroom, by simp, fun _ => ⟨g, 0, rfl, hlt hg, fun i n hi => ?_⟩⟩, fun b off s e => by cases e; exact hb⟩
    have h1 := icells_get hi
    have hlt := (List.getElem?_eq_some_iff.1 hi).1
    rw [← htake, List.getElem?_take_of_lt (by omega)] at h1
    rw [Nat.zero_add, cells_at hg]
    simpa using h1
theorem OwnInts.below {w w' : World} {base : Nat} {v : Value} {l : List Int} (h : OwnInts w base v l) (hb : Below w.heap.size w w') : OwnInts w' base v l := by
  obtain ⟨⟨hlen, hv⟩, hroom⟩ := h
  refine ⟨⟨hlen, ?_⟩, hroom⟩
  rcases hv with h0 | ⟨g, cap, cur, rfl, hb', hg, hrest⟩
  · exact .inl h0
  · exact .inr ⟨g, cap, cur, rfl, hb', hkeep hb hg, hrest⟩
theorem OwnInts.alloc {w : World} {base : Nat} {v : Value} {l : List Int} (h : OwnInts w base v l) (o : Obj) : OwnInts (w.alloc o) base v l := h.below ((Below.refl _ _).alloc (Nat.le_refl _) _)
theorem OwnInts.mono {w : World} {base base' : Nat} {v : Value} {l : List Int} (h : OwnInts w base v l) (hb : base' ≤ base) : OwnInts w base' v l := by
  obtain ⟨⟨hlen, hv⟩, hroom⟩ := h
  refine ⟨⟨hlen, ?_⟩, hroom⟩
  rcases hv with h0 | ⟨g, cap, cur, rfl, hb', hrest⟩
  · exact .inl h0
  · exact .inr ⟨g, cap, cur, rfl, by omega, hrest⟩
theorem OwnInts.one {w : World} {base : Nat} {v : Value} {l : List Int} (h : OwnInts w base v l) : v.oneCell' = true := by
  obtain ⟨a, cap, rfl, _⟩ := h.at_
  rfl
/-- Behind an append of one int: what append's law leaves. -/
theorem OwnInts.snoc {w : World} {base : Nat} {v : Value} {l : List Int} {n : Int} {m : Nat} (hm : m = l.length + 1) (hl : l.length + 1 ≤ 17592186044416) (h : w.ownsRow base 3 1 v m (icells l ++ [.int .i64 n])) : OwnInts w base v (l ++ [n]) := by
  subst hm
  refine ⟨?_, by simp; omega⟩
  rw [icells_snoc]
  simpa using h
theorem OwnInts.own {w : World} {base : Nat} {v : Value} {l : List Int} (h : OwnInts w base v l) {x : Nat} (hx : v.ownBlock = some x) : base ≤ x := by
  rcases h.1.2 with ⟨rfl, _⟩ | ⟨g', cap, cur, rfl, hb', _⟩
  · simp [Value.ownBlock] at hx
  · simp [Value.ownBlock] at hx; omega
theorem cell_new1 (w : World) (v : Value) (t : TypeId) : ∀ (j : Nat) (u : Value), [v][j]? = some u → (w.alloc (.cells #[v] t)).cell? ((⟨w.heap.size, 0, none⟩ : Addr).add j) = some u := by
  intro j u hu
  obtain rfl : j = 0 := by have := (List.getElem?_eq_some_iff.1 hu).1; simpa using this
  have e : (⟨w.heap.size, 0, none⟩ : Addr).add 0 = ⟨w.heap.size, 0, none⟩ := by simp [Addr.add]
  rw [e]
  exact (cells_at (hnew w (.cells #[v] t)) 0).trans (by simpa using hu)
end Go.Proofs.Ytggfdkkhlokmlaa
