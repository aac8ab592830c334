/- Rows of acts (written by gen_acts.py). -/
import Derived.Test.YtggfdkkhlokmlaaBook6
namespace Go.Proofs.Ytggfdkkhlokmlaa
open Go.RowKit

/-- The slice s lies in memory as the acts l. -/
structure ActsAt (w : World) (a : Option Addr) (cap : Nat) (l : List Deed) : Prop where
  le : l.length ≤ cap
  capm : cap ≤ maxLen
  room : l.length * 40 ≤ 140737488355328
  nil0 : a = none → cap = 0
  row : 0 < l.length → ∃ b off, a = some ⟨b, off, none⟩ ∧ b < w.heap.size ∧ ∀ i p, l[i]? = some p → ∀ j v, (dc p)[j]? = some v → w.cell? ⟨b, off + (i * 5 + j), none⟩ = some v
theorem ActsAt.below {w w' : World} {a : Option Addr} {cap : Nat} {l : List Deed} (h : ActsAt w a cap l) (hb : Below w.heap.size w w') : ActsAt w' a cap l :=
  ⟨h.le, h.capm, h.room, h.nil0, fun hl => let ⟨b, off, ha, hbl, hc⟩ := h.row hl; ⟨b, off, ha, Nat.lt_of_lt_of_le hbl hb.size, fun i p hp j v hv => (hb.cell (p := ⟨b, _, none⟩) hbl).trans (hc i p hp j v hv)⟩⟩
theorem ActsAt.alloc {w : World} {a : Option Addr} {cap : Nat} {l : List Deed} (h : ActsAt w a cap l) (o : Obj) : ActsAt (w.alloc o) a cap l := h.below ((Below.refl _ _).alloc (Nat.le_refl _) _)

/-- The cells of acts, one behind the other. -/
def flatD (l : List Deed) : List Value := l.flatMap fun p => (dc p).toList
theorem flatD_length : ∀ l : List Deed, (flatD l).length = l.length * 5
  | [] => rfl
  | p :: l => by
    have := flatD_length l
    simp only [flatD, List.flatMap_cons, List.length_append, List.length_cons] at this ⊢
    rw [this]
    have h5 : (dc p).toList.length = 5 := rfl
    omega
theorem flatD_get : ∀ (l : List Deed) (i : Nat) (p : Deed), l[i]? = some p → ∀ (j : Nat) (v : Value), (dc p)[j]? = some v → (flatD l)[i * 5 + j]? = some v
  | [], i, p, h, _, _, _ => by simp at h
  | q :: l, 0, p, h, j, v, hv => by
    simp at h
    subst h
    have hj : j < 5 := (Array.getElem?_eq_some_iff.1 hv).1
    simp only [flatD, List.flatMap_cons, Nat.zero_mul, Nat.zero_add]
    rw [List.getElem?_append_left (by exact hj)]
    simpa using hv
  | q :: l, i + 1, p, h, j, v, hv => by
    have ih := flatD_get l i p (by simpa using h) j v hv
    simp only [flatD, List.flatMap_cons]
    rw [List.getElem?_append_right (by show 5 ≤ _; omega)]
    have e : (i + 1) * 5 + j - (dc q).toList.length = i * 5 + j := by show (i + 1) * 5 + j - 5 = _; omega
    rw [e]
    exact ih
theorem flatD_append (l k : List Deed) : flatD (l ++ k) = flatD l ++ flatD k := by simp [flatD]
theorem flatD_one (l : List Deed) : ∀ u ∈ flatD l, u.oneCell' = true := by
  intro u hu
  obtain ⟨p, _, hp⟩ := List.mem_flatMap.1 hu
  simp only [dc, List.mem_cons, List.not_mem_nil, or_false] at hp
  rcases hp with rfl | rfl | rfl | rfl | rfl <;> rfl
theorem ActsAt.cells {w : World} {b off cap : Nat} {l : List Deed} (h : ActsAt w (some ⟨b, off, none⟩) cap l) : ∀ j u, (flatD l)[j]? = some u → w.cell? ((⟨b, off, none⟩ : Addr).add j) = some u := by
  intro j u hu
  have hj : j < (flatD l).length := (List.getElem?_eq_some_iff.1 hu).1
  rw [flatD_length] at hj
  have h0 : 0 < l.length := by omega
  obtain ⟨b', off', e, _, hc⟩ := h.row h0
  cases e
  have hadd : (⟨b, off, none⟩ : Addr).add j = ⟨b, off + j, none⟩ := by unfold Addr.add; split <;> simp_all
  have hi : j / 5 < l.length := by omega
  have hjj : j = j / 5 * 5 + j % 5 := by omega
  have hr : j % 5 < 5 := by omega
  have hv : (dc l[j / 5])[j % 5]? = some ((dc l[j / 5])[j % 5]'hr) := Array.getElem?_eq_getElem hr
  have := flatD_get l (j / 5) _ (List.getElem?_eq_getElem hi) (j % 5) _ hv
  rw [← hjj, hu] at this
  cases this
  rw [hadd]
  have hc' := hc (j / 5) _ (List.getElem?_eq_getElem hi) (j % 5) _ hv
  rw [← hjj] at hc'
  exact hc'
/-- Acts in a row of the call's own. -/
def OwnActs (w : World) (base : Nat) (v : Value) (l : List Deed) : Prop := w.ownsRow base 44 5 v l.length (flatD l) ∧ l.length * 40 ≤ 140737488355328
theorem OwnActs.at_ {w : World} {base : Nat} {v : Value} {l : List Deed} (h : OwnActs w base v l) : ∃ a cap, v = .slice a l.length cap ∧ ActsAt w a cap l ∧ (∀ b off s, a = some ⟨b, off, s⟩ → base ≤ b) := by
  obtain ⟨⟨hlen, hv⟩, hroom⟩ := h
  rcases hv with ⟨rfl, h0⟩ | ⟨g, cap, cur, rfl, hb, hg, hn, hc, hsz, htake⟩
  · refine ⟨none, 0, by rw [h0], ⟨by omega, by simp [maxLen], hroom, fun _ => rfl, fun h => absurd h (by omega)⟩, by simp⟩
  · refine ⟨some ⟨g, 0, none⟩, cap, rfl, ⟨hn, hc, hroom, by simp, fun _ => ⟨g, 0, rfl, hlt hg, fun i p hp j v hv => ?_⟩⟩, fun b off s e => by cases e; exact hb⟩
    have h1 := flatD_get l i p hp j v hv
    rw [← htake] at h1
    have hlt : i * 5 + j < l.length * 5 := by
      have hi := (List.getElem?_eq_some_iff.1 hp).1
      have hj : j < 5 := (Array.getElem?_eq_some_iff.1 hv).1
      omega
    rw [List.getElem?_take_of_lt hlt] at h1
    rw [Nat.zero_add, cells_at hg]
    simpa using h1
theorem OwnActs.below {w w' : World} {base : Nat} {v : Value} {l : List Deed} (h : OwnActs w base v l) (hb : Below w.heap.size w w') : OwnActs w' base v l := by
  obtain ⟨⟨hlen, hv⟩, hroom⟩ := h
  refine ⟨⟨hlen, ?_⟩, hroom⟩
  rcases hv with h0 | ⟨g, cap, cur, rfl, hb', hg, hrest⟩
  · exact .inl h0
  · exact .inr ⟨g, cap, cur, rfl, hb', hkeep hb hg, hrest⟩
theorem OwnActs.one {w : World} {base : Nat} {v : Value} {l : List Deed} (h : OwnActs w base v l) : v.oneCell' = true := by
  obtain ⟨a, cap, rfl, _⟩ := h.at_
  rfl
theorem OwnActs.mono {w : World} {base base' : Nat} {v : Value} {l : List Deed} (h : OwnActs w base v l) (hb : base' ≤ base) : OwnActs w base' v l := by
  obtain ⟨⟨hlen, hv⟩, hroom⟩ := h
  refine ⟨⟨hlen, ?_⟩, hroom⟩
  rcases hv with h0 | ⟨g, cap, cur, rfl, hb', hrest⟩
  · exact .inl h0
  · exact .inr ⟨g, cap, cur, rfl, by omega, hrest⟩

theorem OwnActs.keep {w w' : World} {base : Nat} {v : Value} {l : List Deed} (h : OwnActs w base v l) (hb : ∀ g, base ≤ g → w'.heap[g]? = w.heap[g]?) : OwnActs w' base v l := by
  obtain ⟨⟨hlen, hv⟩, hroom⟩ := h
  refine ⟨⟨hlen, ?_⟩, hroom⟩
  rcases hv with h0 | ⟨g, cap, cur, rfl, hb', hg, hrest⟩
  · exact .inl h0
  · exact .inr ⟨g, cap, cur, rfl, hb', (hb g hb').trans hg, hrest⟩
theorem info44z : ∃ (i : TypeInfo) (z : Value), Try.prog.info? 44 = some i ∧ i.zero = some z ∧ i.size = 5 ∧ i.bytes = 40 ∧ z.cells.size = 5 := by
  have h : (Try.prog.info? 44).map (fun i => (i.zero.map (·.cells.size), i.size, i.bytes)) = some (some 5, 5, 40) := by kernel_rfl
  cases hq : Try.prog.info? 44 with
  | none => simp [hq] at h
  | some i =>
    simp only [hq, Option.map_some, Option.some.injEq, Prod.mk.injEq] at h
    obtain ⟨h1, h2, h3⟩ := h
    cases hz : i.zero with
    | none => simp [hz] at h1
    | some z => exact ⟨i, z, rfl, hz, h2, h3, by simpa [hz] using h1⟩
end Go.Proofs.Ytggfdkkhlokmlaa
