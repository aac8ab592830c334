/- queue.Of: the walk. -/
import Derived.Test.YtggfdkkhlokmlaaOfCmp
import Derived.Test.YtggfdkkhlokmlaaShelf
import Derived.Test.YtggfdkkhlokmlaaSelMath
import Derived.Lib.SortBridge
namespace Go.Proofs.Ytggfdkkhlokmlaa
open Go.RowKit Go.Shelf
attribute [local go_sem] hc_pays pc_0 pc_1 pc_2 pc_3 pc_4 pc_5
/-- A world that has only grown. -/
theorem grow_of {w w' : World} (hb : Below w.heap.size w w') (hd : w.drawn ≤ w'.drawn) : ∃ q os, w' = Sort.grow (w.drewN q) os := by
  refine ⟨w'.drawn - w.drawn, w'.heap.extract w.heap.size w'.heap.size, ?_⟩
  have h1 : (w.heap ++ w'.heap.extract w.heap.size w'.heap.size) = w'.heap := by
    apply Array.ext_getElem?
    intro i
    have hsz := hb.size
    by_cases hi : i < w.heap.size
    · rw [Array.getElem?_append_left hi, hb.block i hi]
    · rw [Array.getElem?_append_right (by omega), Array.getElem?_extract]
      by_cases hi2 : i < w'.heap.size
      · rw [if_pos (by omega)]; congr 1; omega
      · rw [if_neg (by omega)]; symm; rw [Array.getElem?_eq_none (by omega)]
  have h2 : (w.drewN (w'.drawn - w.drawn)).drawn = w'.drawn := by
    show w.drawn + (w'.drawn - w.drawn) = _; omega
  cases w'
  simp only [Sort.grow] at *
  simp only [World.mk.injEq]
  refine ⟨h1.symm, hb.tape, h2.symm, hb.os, hb.output⟩
theorem sortW_other {α : Type} [Inhabited α] (enc : α → Value) (w : World) (g m : Nat) (d : Array α) (os : Array Obj) (k : Nat) (hk : k < w.heap.size) (hne : k ≠ g) : (sortWorld enc w g 0 m d os).heap[k]? = w.heap[k]? := by
  simp only [sortWorld, Sort.grow, Sort.putRow, Sort.mapBlock, Sort.ahead]
  rw [Array.getElem?_append_left (by simpa using hk), Array.getElem?_modify, if_neg (Ne.symm hne)]
theorem sortW_row {α : Type} [Inhabited α] (enc : α → Value) (w : World) (g m : Nat) (d : Array α) (os : Array Obj) {cur : Array Value} {t : TypeId} {fr : Nat × Nat} (hg : w.heap[g]? = some (.cells cur t fr)) :
    (sortWorld enc w g 0 m d os).heap[g]? = some (.cells (Sort.putCells enc 0 d cur) t fr) := by
  simp only [sortWorld, Sort.grow, Sort.putRow, Sort.mapBlock, Sort.ahead]
  rw [Array.getElem?_append_left (by simpa using hlt hg), Array.getElem?_modify, if_pos rfl, hg]
  rfl
theorem sortW_grown {α : Type} [Inhabited α] (enc : α → Value) (w : World) (g m : Nat) (d : Array α) (os : Array Obj) : w.grownBy (sortWorld enc w g 0 m d os) (some g) :=
  ⟨rfl, rfl, rfl, by simp [sortWorld, Sort.grow, Sort.putRow, Sort.mapBlock, Sort.ahead], fun k hk hne => sortW_other enc w g m d os k hk (fun e => hne (by rw [e]))⟩
theorem putCells_get {α : Type} [Inhabited α] (enc : α → Value) (d : Array α) (cur : Array Value) (j : Nat) (hj : j < d.size) (hc : j < cur.size) : (Sort.putCells enc 0 d cur)[j]? = some (enc d[j]!) := by
  simp only [Sort.putCells, Array.getElem?_mapIdx, Array.getElem?_eq_getElem hc, Option.map_some]
  rw [if_pos (by omega)]; simp
theorem putCells_size {α : Type} [Inhabited α] (enc : α → Value) (d : Array α) (cur : Array Value) : (Sort.putCells enc 0 d cur).size = cur.size := by simp [Sort.putCells]
theorem PaysAt.grown {w w' : World} {a : Option Addr} {cap : Nat} {l : List Pay} {g : Nat} (h : PaysAt w a cap l) (hg : w.grownBy w' (some g)) (hne : ∀ b off s, a = some ⟨b, off, s⟩ → b ≠ g) : PaysAt w' a cap l :=
  ⟨h.le, h.capm, h.room, h.nil0, fun hl => let ⟨b, off, ha, hbl, hc⟩ := h.row hl
    ⟨b, off, ha, Nat.lt_of_lt_of_le hbl hg.size, fun i p hp j v hv => (World.cell?_of_block (hg.block b hbl (by simpa using hne b off none ha))).trans (hc i p hp j v hv)⟩⟩
def encF (l : List Pay) (i : Fin l.length) : Value := .int .i64 (i.val : Int)
def cfF (l : List Pay) (i k : Fin l.length) : Int := cmpP (payAt l i.val) (payAt l k.val)
theorem ltF (l : List Pay) (i k : Fin l.length) : ltOf (cfF l) i k = true ↔ (payAt l i.val).cls < (payAt l k.val).cls ∨ (payAt l i.val).cls = (payAt l k.val).cls ∧ (payAt l i.val).seq < (payAt l k.val).seq := by
  show decide (cmpP (payAt l i.val) (payAt l k.val) < 0) = true ↔ _
  rw [decide_eq_true_eq]; exact cmpP_lt
theorem ltF_no (l : List Pay) (i k : Fin l.length) : ltOf (cfF l) i k = false ↔ ¬ ((payAt l i.val).cls < (payAt l k.val).cls ∨ (payAt l i.val).cls = (payAt l k.val).cls ∧ (payAt l i.val).seq < (payAt l k.val).seq) := by
  rw [← ltF]; simp
theorem ltF_false (l : List Pay) (i k : Fin l.length) : ltOf (cfF l) k i = false ↔ leB l i.val k.val = true := by
  rw [ltF_no]; simp only [leB, leP, Bool.or_eq_true, Bool.and_eq_true, decide_eq_true_eq, beq_iff_eq]; omega
theorem swoF (l : List Pay) : Sort.SWO (ltOf (cfF l)) where
  irrefl i := by rw [ltF_no]; omega
  trans i j k h1 h2 := by rw [ltF] at *; omega
  ntrans i j k h1 h2 := by rw [ltF_no] at *; omega
set_option maxHeartbeats 1000000 in
/-- slices.SortFunc over indexes of payments, as queue.Of calls it. -/
theorem sortFunc_any (h : Hs) (l : List Pay) (a : Option Addr) (cap gh base : Nat) (v : Value) (xs : List Nat) (w : World) (hg : w.heap[gh]? = some (.cells (hc h (.slice a l.length cap)) 30 (0, 0))) (hp : PaysAt w a cap l)
    (hgb : gh < base) (hab : 0 < l.length → ∀ b off s, a = some ⟨b, off, s⟩ → b < base) (hx : ∀ x ∈ xs, x < l.length) (hown : OwnInts w base v (nats xs)) :
    Calls Try.prog 71 #[v, .func (.func 72) #[] #[.pointer (some ⟨gh, 0, none⟩)]] w fun e w' => e = .returned (.tuple #[]) ∧ ∃ ys : List Nat, ys.Perm xs ∧ (ys.Pairwise fun i k => leB l i k = true) ∧ OwnInts w' base v (nats ys) ∧ Below base w w' := by
  obtain ⟨⟨hlen, hv⟩, hroom⟩ := hown
  rw [nats_len] at hlen hv hroom
  rcases hv with ⟨rfl, h0⟩ | ⟨g, cp, cur, rfl, hbg, hgc, hn, hcm, hsz, htake⟩
  · have hxs := List.length_eq_zero_iff.1 h0
    subst hxs
    have hS := AnyF.slices_SortFunc_none (P := Try.prog) (ρ := Try.sortL_ren) { Try.sortL with } none 0 (.func (.func 72) #[] #[.pointer (some ⟨gh, 0, none⟩)]) w
    exact hS.mono fun e w' ⟨he, hw⟩ => by
      subst hw
      exact ⟨he, [], List.Perm.refl _, List.Pairwise.nil, ⟨⟨rfl, .inl ⟨rfl, rfl⟩⟩, by simp [nats]⟩, Below.refl _ _⟩
  · by_cases hl0 : l.length = 0
    · have hxs : xs = [] := by
        cases xs with
        | nil => rfl
        | cons x xs => have := hx x (by simp); omega
      subst hxs
      have hS := AnyF.slices_SortFunc_none (P := Try.prog) (ρ := Try.sortL_ren) { Try.sortL with } (some ⟨g, 0, none⟩) cp (.func (.func 72) #[] #[.pointer (some ⟨gh, 0, none⟩)]) w
      exact hS.mono fun e w' ⟨he, hw⟩ => by
        subst hw
        exact ⟨he, [], List.Perm.refl _, List.Pairwise.nil, ⟨⟨rfl, .inr ⟨g, cp, cur, rfl, hbg, hgc, hn, hcm, hsz, htake⟩⟩, by simp [nats]⟩, Below.refl _ _⟩
    · haveI : Inhabited (Fin l.length) := ⟨⟨0, by omega⟩⟩
      obtain ⟨ds, hds⟩ : ∃ ds : List (Fin l.length), ds.map (·.val) = xs := ⟨xs.attach.map fun x => ⟨x.1, hx x.1 x.2⟩, by simp [Function.comp_def]⟩
      have hdl : ds.length = xs.length := by rw [← hds]; simp
      have hget : ∀ j, j < ds.length → (nats xs)[j]? = some ((ds.toArray[j]!).val : Int) := fun j hj => by
        rw [← hds]
        simp [nats, hj]
      have hH : Sort.Holds (encF l) w g 0 ds.toArray := fun j hj => by
        have hj' : j < ds.length := by simpa using hj
        refine ⟨?_, frozenAt hgc _⟩
        rw [Nat.zero_add, cells_at hgc]
        have h1 := icells_get (hget j hj')
        rw [← htake, List.getElem?_take_of_lt (by omega)] at h1
        simpa [encF] using h1
      have hsz' : ds.toArray.size = xs.length := by simpa using hdl
      have hcmp : CmpLays1 Try.prog 72 #[.pointer (some ⟨gh, 0, none⟩)] (encF l) (cfF l) g 0 ds.toArray.size w := fun m os dk _ x y => by
        have hgh : (sortWorld (encF l) w g 0 m dk os).heap[gh]? = some (.cells (hc h (.slice a l.length cap)) 30 (0, 0)) := by
          rw [sortW_other (encF l) w g m dk os gh (hlt hg) (by omega)]; exact hg
        have hp' := hp.grown (sortW_grown (encF l) w g m dk os) (fun b off s e => by have := hab (by omega) b off s e; omega)
        exact (ofCmp_any h l a cap gh x.val y.val _ x.isLt y.isLt hgh hp').mono fun e w' ⟨he, hb, hd⟩ => ⟨he, grow_of hb hd⟩
      have eg : ∀ args w, (callFunc 72 args).run Try.prog w = .ok (.enter 72 args) w := enters_of Try.func72 (by kernel_rfl) rfl
      have hS := Any.slices_SortFunc (P := Try.prog) (ρ := Try.sortL_ren) Try.sortL (encF l) (fun _ => rfl) (cfF l) (swoF l) 72 #[.pointer (some ⟨gh, 0, none⟩)] g 0 cp ds.toArray w eg hcmp hH (hlt hgc) (by rw [hsz']; have := hn; unfold maxLen at hcm; omega)
      rw [hsz'] at hS
      refine Calls.mono (R := fun e w' => _) hS fun e w' ⟨he, d', m, os, hpm, hst, hw⟩ => ?_
      subst hw
      obtain ⟨p1, p2, p3⟩ := hpm
      rw [hsz'] at p1
      have hext : d'.extract 0 xs.length = d' := by rw [← p1]; simp
      have hext2 : ds.toArray.extract 0 xs.length = ds.toArray := by rw [← hsz']; simp
      rw [hext, hext2] at p3
      have hdl' : d'.toList.length = xs.length := by simpa using p1
      have hrow := sortW_row (encF l) w g m d' os hgc
      have hgr := sortW_grown (encF l) w g m d' os
      refine ⟨he, d'.toList.map (·.val), ?_, ?_, ⟨⟨?_, .inr ⟨g, cp, Sort.putCells (encF l) 0 d' cur, ?_, hbg, hrow, ?_, hcm, ?_, ?_⟩⟩, ?_⟩, ?_⟩
      · rw [← hds]; exact p3.map _
      · rw [List.pairwise_map, List.pairwise_iff_getElem]
        intro i j hi hj hij
        have h1 := hst i j (Nat.zero_le _) hij (by rw [← hdl']; exact hj)
        have hi' : i < d'.size := by simpa using hi
        have hj' : j < d'.size := by simpa using hj
        rw [getElem!_pos d' i hi', getElem!_pos d' j hj'] at h1
        have := (ltF_false l _ _).1 h1
        simpa using this
      · simp [nats, icells, p1]
      · simp [nats, p1]
      · simpa [nats, p1] using hn
      · rw [putCells_size]; exact hsz
      · have hc' : xs.length ≤ cur.size := by omega
        apply List.ext_getElem?
        intro j
        by_cases hj : j < xs.length
        · rw [List.getElem?_take_of_lt (by simp [nats, p1]; omega)]
          have h1 := putCells_get (encF l) d' cur j (by omega) (by omega)
          have h2 : (d'.toList.map (·.val))[j]? = some (d'[j]!).val := by
            have : j < d'.size := by omega
            simp [this]
          have h3 : (nats (d'.toList.map (·.val)))[j]? = some ((d'[j]!).val : Int) := by simp only [nats, List.getElem?_map, h2, Option.map_some]
          rw [icells_get h3]
          simpa [encF] using h1
        · rw [List.getElem?_eq_none (by simp [nats, p1]; omega), List.getElem?_eq_none (by simp [nats, icells, p1]; omega)]
      · simpa [nats, p1] using hroom
      · exact (Below.refl base w).grown hgr (by have := hlt hgc; omega) (fun k hk => by cases hk; exact hbg)
end Go.Proofs.Ytggfdkkhlokmlaa
