/- An array or a struct of ints equals itself. -/
import Derived.Test.YtggfdkkhlokmlabChecked
import Derived.ChangeKeysEq
import Derived.Deep.LoopGhost
import Derived.BigQuiet
import Derived.OrdersHeld
import Derived.Test.YtggfdkkhlokmlabCLed
namespace Go.Proofs.Ytggfdkkhlokmlab
open Go.RowKit

theorem eqi (d : Nat) (a b : Int) (w : World) : (Op.equalIn (d + 1) 3 (.int .i64 a) (.int .i64 b)).run Try.prog w = .ok (a == b) w :=
 run_equalIn_int w d _ _ _ a b Try.underlying3
theorem part_int (cs : Array Value) (off : Nat) (v : Value) (h : cs[off]? = some v) (w : World) : (part 3 cs off).run Try.prog w = .ok v w := by
 have hagg : (isAgg 3).run Try.prog w = .ok false w := by
  unfold isAgg
  rw [Sem.run_bind, run_underlying Try.underlying3 w]
  rfl
 simp [part, Sem.run_bind, hagg, h]
theorem part_agg {t : TypeId} {d : TypeDesc} (hu : Try.prog.underlying t = some d) (hd : (match d with | .struct _ | .array _ _ => true | _ => false) = true) {i : TypeInfo} (hi : Try.prog.info? t = some i) (cs : Array Value) (off : Nat) (w : World) :
  (part t cs off).run Try.prog w = .ok (.agg (cs.extract off (off + i.size))) w := by
 have hagg : (isAgg t).run Try.prog w = .ok true w := by
  unfold isAgg
  rw [Sem.run_bind, run_underlying hu w]
  cases d <;> simp_all
 simp [part, Sem.run_bind, hagg, sizeOf, typeInfo, hi]
theorem cells3 : Try.prog.cellsOf 3 = 1 := by kernel_rfl
theorem infoSome {t n : Nat} (h : (Try.prog.info? t).map (·.size) = some n) : ∃ i, Try.prog.info? t = some i ∧ i.size = n := by
 cases hq : Try.prog.info? t with
 | none => simp [hq] at h
 | some i => exact ⟨i, rfl, by simpa [hq] using h⟩
theorem info3 : (Try.prog.info? 3).map (·.size) = some 1 := by kernel_rfl
theorem info26 : (Try.prog.info? 25).map (·.size) = some 4 := by kernel_rfl
theorem cells26 : Try.prog.cellsOf 25 = 4 := by kernel_rfl
theorem cells24 : Try.prog.cellsOf 23 = 2 := by kernel_rfl

/-- All cells are ints. -/
def Ints (xs : Array Value) (n : Nat) : Prop := ∀ i, i < n → ∃ a, xs[i]? = some (.int .i64 a)
theorem eq4 (d : Nat) (xs : Array Value) (hx : Ints xs 4) (w : World) : (Op.equalIn (d + 2) 25 (.agg xs) (.agg xs)).run Try.prog w = .ok true w := by
 obtain ⟨i, hi, _⟩ := infoSome info3
 rw [run_equalIn_array w (d + 1) xs xs Try.underlying25 hi, cells3]
 have key : ∀ is : List Nat, (∀ j ∈ is, j < 4) → (Op.eqItems (d + 1) 3 1 xs xs is).run Try.prog w = .ok true w := by
  intro is
  induction is with
  | nil => intro _; simp [Op.eqItems]
  | cons j js ih =>
   intro hj
   obtain ⟨a, ha⟩ := hx j (hj j (by simp))
   have hp := part_int xs (j * 1) _ (by simpa using ha) w
   simp only [Op.eqItems, Sem.run_bind, hp, Result.andThen_ok, eqi]
   simpa using ih (fun k hk => hj k (by simp [hk]))
 exact key _ (fun j hj => List.mem_range.1 hj)
theorem eq44 (d : Nat) (xs : Array Value) (hx : Ints xs 16) (w : World) : (Op.equalIn (d + 3) 26 (.agg xs) (.agg xs)).run Try.prog w = .ok true w := by
 obtain ⟨i, hi, his⟩ := infoSome info26
 rw [run_equalIn_array w (d + 2) xs xs Try.underlying26 hi, cells26]
 have key : ∀ is : List Nat, (∀ j ∈ is, j < 4) → (Op.eqItems (d + 2) 25 4 xs xs is).run Try.prog w = .ok true w := by
  intro is
  induction is with
  | nil => intro _; simp [Op.eqItems]
  | cons j js ih =>
   intro hj
   have hj4 := hj j (by simp)
   have hp := part_agg Try.underlying25 rfl hi xs (j * 4) w
   have he := eq4 d (xs.extract (j * 4) (j * 4 + i.size)) (fun k hk => by
    obtain ⟨a, ha⟩ := hx (j * 4 + k) (by omega)
    have hlt := (Array.getElem?_eq_some_iff.1 ha).1
    exact ⟨a, by rw [his, Array.getElem?_extract, if_pos (by omega)]; exact ha⟩) w
   simp only [Op.eqItems, Sem.run_bind, hp, Result.andThen_ok, he]
   simpa using ih (fun k hk => hj k (by simp [hk]))
 exact key _ (fun j hj => List.mem_range.1 hj)
theorem eqFields_ints (d : Nat) (xs : Array Value) (w : World) : ∀ fs : List Field, (∀ f ∈ fs, (f.name == "_") = false ∧ f.type = 3 ∧ ∃ a, xs[f.offset]? = some (.int .i64 a)) → (Op.eqFields (d + 1) xs xs fs).run Try.prog w = .ok true w
 | [], _ => by simp [Op.eqFields]
 | f :: fs, h => by
  obtain ⟨h1, h2, a, ha⟩ := h f (by simp)
  have h1' : f.name ≠ "_" := by simpa using h1
  have ih := eqFields_ints d xs w fs (fun g hg => h g (by simp [hg]))
  simp only [Op.eqFields, h2]
  simp [Sem.run_bind, part_int _ _ _ ha, eqi, ih, h1']
theorem eqStruct (d : Nat) {t : TypeId} (xs : Array Value) (n : Nat) (hx : Ints xs n) (ht : Try.prog.underlying t = some (.struct (Try.prog.fieldsOf t))) (hp : Try.prog.stoodInHeld t = false)
  (hf : ((Try.prog.fieldsOf t).toList.all fun f => !(f.name == "_") && f.type == 3 && decide (f.offset < n)) = true) (w : World) : (Op.equalIn (d + 2) t (.agg xs) (.agg xs)).run Try.prog w = .ok true w := by
 rw [run_equalIn_struct w (d + 1) _ _ _ ht hp]
 refine eqFields_ints d xs w _ fun f hm => ?_
 have := List.all_eq_true.1 hf f hm
 simp only [Bool.and_eq_true, Bool.not_eq_true', beq_iff_eq, decide_eq_true_eq] at this
 exact ⟨this.1.1, this.1.2, hx _ this.2⟩
theorem eq2 (d : Nat) (a b : Int) (w : World) : (Op.equalIn (d + 2) 23 (.agg #[.int .i64 a, .int .i64 b]) (.agg #[.int .i64 a, .int .i64 b])).run Try.prog w = .ok true w :=
 eqStruct d _ 2 (fun i hi => by rcases i with _ | _ | i <;> first | exact ⟨_, rfl⟩ | omega) (by kernel_rfl) (by kernel_rfl) (by kernel_rfl) w
theorem eqA (d : Nat) (h : Hs) (w : World) : (Op.equalIn (d + 3) 24 (.agg (accs h)) (.agg (accs h))).run Try.prog w = .ok true w := by
 obtain ⟨i, hi, his⟩ := infoSome (t := 23) (n := 2) (by kernel_rfl)
 rw [run_equalIn_array w (d + 2) _ _ Try.underlying24 hi, cells24]
 have key : ∀ is : List Nat, (∀ j ∈ is, j < 4) → (Op.eqItems (d + 2) 23 2 (accs h) (accs h) is).run Try.prog w = .ok true w := by
  intro is
  induction is with
  | nil => intro _; simp [Op.eqItems]
  | cons j js ih =>
   intro hj
   have hj4 := hj j (by simp)
   have hp := part_agg Try.underlying23 rfl hi (accs h) (j * 2) w
   have hx : (accs h).extract (j * 2) (j * 2 + i.size) = #[.int .i64 (h.has j), .int .i64 (h.cr j)] := by
    rw [his]
    rcases j with _ | _ | _ | _ | j <;> first | rfl | omega
   rw [hx] at hp
   simp only [Op.eqItems, Sem.run_bind, hp, Result.andThen_ok, eq2]
   simpa using ih (fun k hk => hj k (by simp [hk]))
 exact key _ (fun j hj => List.mem_range.1 hj)
theorem sents_ints (h : Hs) : Ints (sents h) 16 := by
 intro i hi
 rcases i with _ | _ | _ | _ | _ | _ | _ | _ | _ | _ | _ | _ | _ | _ | _ | _ | i <;> first | exact ⟨_, rfl⟩ | omega
theorem lims_ints (h : Hs) : Ints (lims h) 16 := by
 intro i hi
 rcases i with _ | _ | _ | _ | _ | _ | _ | _ | _ | _ | _ | _ | _ | _ | _ | _ | i <;> first | exact ⟨_, rfl⟩ | omega
theorem eqP (d : Nat) (p : Pay) (w : World) : (Op.equalIn (d + 2) 70 (.agg (pc p)) (.agg (pc p))).run Try.prog w = .ok true w :=
 eqStruct d _ 6 (fun i hi => by rcases i with _ | _ | _ | _ | _ | _ | i <;> first | exact ⟨_, rfl⟩ | omega) (by kernel_rfl) (by kernel_rfl) (by kernel_rfl) w
theorem neq_accs (h : Hs) (w : World) : (binOp .neq 24 (.agg (accs h)) (.agg (accs h))).run Try.prog w = .ok (.bool false) w := by
 rw [run_neq_struct, eqA 9997]; rfl
theorem neq_sents (h : Hs) (w : World) : (binOp .neq 26 (.agg (sents h)) (.agg (sents h))).run Try.prog w = .ok (.bool false) w := by
 rw [run_neq_struct, eq44 9997 _ (sents_ints h)]; rfl
theorem neq_lims (h : Hs) (w : World) : (binOp .neq 26 (.agg (lims h)) (.agg (lims h))).run Try.prog w = .ok (.bool false) w := by
 rw [run_neq_struct, eq44 9997 _ (lims_ints h)]; rfl
theorem neq_pay (p : Pay) (w : World) : (binOp .neq 70 (.agg (pc p)) (.agg (pc p))).run Try.prog w = .ok (.bool false) w := by
 rw [run_neq_struct, eqP 9998]; rfl
end Go.Proofs.Ytggfdkkhlokmlab

namespace Go.Proofs.Ytggfdkkhlokmlab
open Go.RowKit
attribute [local go_sem] hc_pays hc_next hc_size neq_pay

theorem info36z : ∃ (i : TypeInfo) (z : Value), Try.prog.info? 70 = some i ∧ i.zero = some z ∧ i.size = 6 ∧ i.bytes = 48 ∧ z.cells.size = 6 := by
 have h : (Try.prog.info? 70).map (fun i => (i.zero.map (·.cells.size), i.size, i.bytes)) = some (some 6, 6, 48) := by kernel_rfl
 cases hq : Try.prog.info? 70 with
 | none => simp [hq] at h
 | some i =>
  simp only [hq, Option.map_some, Option.some.injEq, Prod.mk.injEq] at h
  obtain ⟨h1, h2, h3⟩ := h
  cases hz : i.zero with
  | none => simp [hz] at h1
  | some z => exact ⟨i, z, rfl, hz, h2, h3, by simpa [hz] using h1⟩

def Hs.zero : Hs := { has := fun _ => 0, cr := fun _ => 0, sent := fun _ _ => 0, lim := fun _ _ => 0, next := 0 }
theorem hc_setPays (h : Hs) (s v : Value) : (hc h s).setIfInBounds 40 v = hc h v := rfl
theorem OwnPays.keep {w w' : World} {base : Nat} {v : Value} {l : List Pay} (h : OwnPays w base v l) (hb : ∀ g, base ≤ g → w'.heap[g]? = w.heap[g]?) : OwnPays w' base v l := by
 obtain ⟨⟨hlen, hv⟩, hroom⟩ := h
 refine ⟨⟨hlen, ?_⟩, hroom⟩
 rcases hv with h0 | ⟨g, cap, cur, rfl, hb', hg, hrest⟩
 ·exact .inl h0
 ·exact .inr ⟨g, cap, cur, rfl, hb', (hb g hb').trans hg, hrest⟩
theorem hsetOther {w : World} {g k i : Nat} {o : Obj} (h : w.heap[k]? = some o) (hne : k ≠ g) (v : Value) : (w.setCell ⟨g, i, none⟩ v).heap[k]? = some o := by
 rw [heap_setCell_other _ _ _ _ (by simpa using hne)]; exact h
theorem hsetSame {w : World} {g i : Nat} {cs : Array Value} {t : TypeId} (hg : w.heap[g]? = some (.cells cs t (0, 0))) (v : Value) : (w.setCell ⟨g, i, none⟩ v).heap[g]? = some (.cells (cs.setIfInBounds i v) t (0, 0)) :=
 heap_setCell_same w g i cs t v hg
theorem frozenAt {w : World} {b : Nat} {cs : Array Value} {t : TypeId} (h : w.heap[b]? = some (.cells cs t (0, 0))) : ∀ o : Nat, w.frozen? ⟨b, o, none⟩ = false := fun o => by
 simp [World.frozen?, h]
theorem append_nil : ∀ w : World, (Builtin.append_ #[27, 27] 27 #[.slice none 0 0, .slice none 0 0]).run Try.prog w = .ok (.slice none 0 0) w := fun w => by kernel_rfl

def CopyPost (h : Hs) (l : List Pay) (w : World) (e : Ending) (w' : World) : Prop := (∃ v, e = .returned (.agg (hc h v)) ∧ OwnPays w' w.heap.size v l) ∧ Below w.heap.size w w'

set_option maxHeartbeats 1000000 in
theorem copyHouse_some (h : Hs) (l : List Pay) (a : Addr) (cap : Nat) (w : World) (hp : PaysAt w (some a) cap l) :
  Calls Try.prog 33 #[.agg (hc h (.slice (some a) l.length cap))] w (CopyPost h l w) := by
 have hroom := hp.room
 have hnews : ∀ j u, (flat l)[j]? = some u → w.cell? (a.add j) = some u ∧ (a.add j).block < w.heap.size := by
  rcases Nat.eq_zero_or_pos l.length with h0 | h0
  ·rw [List.length_eq_zero_iff.1 h0]; intro j u hu; simp [flat] at hu
  ·obtain ⟨b, off, e, hbl, _⟩ := hp.row h0
   cases e
   exact fun j u hu => ⟨hp.cells j u hu, by unfold Addr.add; split <;> exact hbl⟩
 replace hnews := Lib.hid hnews
 have hmx : l.length ≤ maxLen := Nat.le_trans hp.le hp.capm
 clear hp
 obtain ⟨i0, z, hi, hz0, hz1, hz2, hz3⟩ := info36z
 go_enter Try.func33, Try.ntmps33
 go_wp2_with (at_builtin; refine wpList_append_own _ rfl _ _ 27 rfl (w.heap.size + 2) 70 i0 z 6 48 Try.underlying27 hi hz0 hz1 hz2 hz3 (by decide) _ 0 [] rfl ⟨rfl, .inl ⟨rfl, rfl⟩⟩ a l.length cap (flat l) rfl (flat_length l) ?c1 (flat_one l) ?c3 ?c4 ?c5 ?_)
 case c1 =>
  intro j u hu
  obtain ⟨h1, h2⟩ := hnews.out j u hu
  rw [← h1]
  exact (((Below.refl w.heap.size _).alloc (Nat.le_refl _) _).alloc (by simp) _).cell h2
 case c3 => simpa using hmx
 case c4 => simpa using hroom
 case c5 => simp
 intro v' w1 hown hgr _
 have hO : OwnPays w1 (w.heap.size + 2) v' l := ⟨hown, hroom⟩
 obtain ⟨a', cap', rfl, _, _⟩ := hO.at_
 have hgA : w1.heap[w.heap.size]? = some (.cells (hc h (.slice (some a) l.length cap)) 29 (0, 0)) := (hgr.block _ (by simp; omega) (by simp [Value.ownBlock])).trans (heap_alloc2_old _ _ _)
 have hgZ : w1.heap[w.heap.size + 1]? = some (.cells (hc Hs.zero (.slice none 0 0)) 29 (0, 0)) := (hgr.block _ (by simp) (by simp [Value.ownBlock])).trans (heap_alloc2_new _ _ _)
 have hB : Below w.heap.size w w1 := (((Below.refl w.heap.size _).alloc (Nat.le_refl _) _).alloc (by simp) _).grown hgr (by simp; omega) (fun k hk => by simp [Value.ownBlock] at hk)
 clear hgr hown hnews
 have hcl := cells_at hgA
 have hfr := frozenAt hgA
 have hgB : (w1.setCell ⟨w.heap.size, 40, none⟩ (.slice a' l.length cap')).heap[w.heap.size]? = some (.cells (hc h (.slice a' l.length cap')) 29 (0, 0)) := hsetSame hgA _
 have hgY : (w1.setCell ⟨w.heap.size, 40, none⟩ (.slice a' l.length cap')).heap[w.heap.size + 1]? = some (.cells (hc Hs.zero (.slice none 0 0)) 29 (0, 0)) := hsetOther hgZ (by omega) _
 replace hgB := Lib.hid hgB
 replace hgY := Lib.hid hgY
 replace hO := Lib.hid hO
 go_wp2_with (first | go_skip | (refine ld_row 29 _ rfl rfl _ rfl _ _ _ _ hgB.out Try.underlying29 rfl info30 ?_) | (refine st_row 29 _ _ rfl rfl _ rfl _ rfl _ _ hgY.out info30 rfl (hc_one _ _ rfl) ?_; intro w2 hr hgr hsz))
 refine bodyPost_ret (results_house rfl _ _ _ _ _ rfl hr) rfl ⟨⟨_, rfl, ?_⟩, ?_⟩
 ·refine OwnPays.mono (base := w.heap.size + 2) (hO.out.keep fun g hg => ?_) (by omega)
  have hsz1 := hB.size
  by_cases hlt : g < w1.heap.size
  ·exact (hgr.block g (by simp [World.setCell]; omega) (by simp; omega)).trans (heap_setCell_other _ _ _ _ (by simp; omega))
  ·have e1 : w1.heap[g]? = none := by simp; omega
   have e2 : w2.heap[g]? = none := by simp [hsz, World.setCell]; omega
   rw [e1, e2]
 ·exact (hB.setCell (Nat.le_refl _) _).grown hgr (by simp [World.setCell]; exact hB.size) (fun k hk => by cases hk; omega)

set_option maxHeartbeats 1000000 in
theorem copyHouse_nil (h : Hs) (w : World) :
  Calls Try.prog 33 #[.agg (hc h (.slice none 0 0))] w (CopyPost h [] w) := by
 have happ := append_nil
 have hgA := heap_alloc2_old w (.cells (hc h (.slice none 0 0)) 29) (.cells (hc Hs.zero (.slice none 0 0)) 29)
 have hgZ := heap_alloc2_new w (.cells (hc h (.slice none 0 0)) 29) (.cells (hc Hs.zero (.slice none 0 0)) 29)
 go_enter Try.func33, Try.ntmps33
 have hsC : (hc h (.slice none 0 0)).setIfInBounds 40 (.slice none 0 0) = hc h (.slice none 0 0) := rfl
 go_wp2_with (first | go_skip | (refine ld_row 29 _ rfl rfl _ rfl _ _ _ _ hgA Try.underlying29 rfl info30 ?_) | (refine st_row 29 _ _ rfl rfl _ rfl _ rfl _ _ hgZ info30 rfl (hc_one _ _ rfl) ?_; intro w2 hr hgr hsz))
 refine bodyPost_ret (results_house rfl _ _ _ _ _ rfl hr) rfl ⟨⟨_, rfl, ?_⟩, ?_⟩
 ·exact ⟨⟨rfl, .inl ⟨rfl, rfl⟩⟩, by simp⟩
 ·exact (((Below.refl w.heap.size _).alloc (Nat.le_refl _) _).alloc (by simp) _).grown hgr (by simp; omega) (fun k hk => by cases hk; omega)
theorem copyHouse_any (h : Hs) (l : List Pay) (a : Option Addr) (cap : Nat) (w : World) (hp : PaysAt w a cap l) :
  Calls Try.prog 33 #[.agg (hc h (.slice a l.length cap))] w (CopyPost h l w) := by
 cases a with
 | some a => exact copyHouse_some h l a cap w hp
 | none =>
  have hc0 := hp.nil0 rfl
  have hl0 : l = [] := List.length_eq_zero_iff.1 (by have := hp.le; omega)
  subst hl0
  subst hc0
  exact copyHouse_nil h w
end Go.Proofs.Ytggfdkkhlokmlab

namespace Go.Proofs.Ytggfdkkhlokmlab
open Go.RowKit

theorem PaysAt.six {w : World} {b off cap : Nat} {l : List Pay} (h : PaysAt w (some ⟨b, off, none⟩) cap l) {i : Nat} {p : Pay} (hp : l[i]? = some p) :
  w.cell? ⟨b, off + i * 6, none⟩ = some (.int .i64 p.frm) ∧ w.cell? ⟨b, off + i * 6 + 1, none⟩ = some (.int .i64 p.to) ∧ w.cell? ⟨b, off + i * 6 + 2, none⟩ = some (.int .i64 p.amt) ∧
  w.cell? ⟨b, off + i * 6 + 3, none⟩ = some (.int .i64 p.cls) ∧ w.cell? ⟨b, off + i * 6 + 4, none⟩ = some (.int .i64 p.st) ∧ w.cell? ⟨b, off + i * 6 + 5, none⟩ = some (.int .i64 p.seq) := by
 have hi := (List.getElem?_eq_some_iff.1 hp).1
 obtain ⟨b', off', e, _, hc⟩ := h.row (by omega)
 cases e
 have h0 := hc i p hp
 exact ⟨h0 0 _ rfl, by rw [Nat.add_assoc]; exact h0 1 _ rfl, by rw [Nat.add_assoc]; exact h0 2 _ rfl, by rw [Nat.add_assoc]; exact h0 3 _ rfl, by rw [Nat.add_assoc]; exact h0 4 _ rfl, by rw [Nat.add_assoc]; exact h0 5 _ rfl⟩
theorem neq_pay6 (x0 x1 x2 x3 x4 x5 : Int) (w : World) : (binOp .neq 70 (.agg #[.int .i64 x0, .int .i64 x1, .int .i64 x2, .int .i64 x3, .int .i64 x4, .int .i64 x5]) (.agg #[.int .i64 x0, .int .i64 x1, .int .i64 x2, .int .i64 x3, .int .i64 x4, .int .i64 x5])).run Try.prog w = .ok (.bool false) w :=
 neq_pay ⟨x0, x1, x2, x3, x4, x5⟩ w
attribute [local go_sem high] neq_accs neq_sents neq_lims neq_pay neq_pay6
attribute [local go_sem] hc_pays hc_next hc_size

set_option maxRecDepth 100000 in
set_option maxHeartbeats 1000000 in
theorem sameHouse_eq (h : Hs) (l : List Pay) (a b : Option Addr) (cap cap' : Nat) (w : World) (ha : PaysAt w a cap l) (hb : PaysAt w b cap' l) :
  Calls Try.prog 27 #[.agg (hc h (.slice a l.length cap)), .agg (hc h (.slice b l.length cap'))] w fun e w' => e = .returned (.bool true) ∧ Below w.heap.size w w' := by
 have hgA := heap_alloc2_old w (.cells (hc h (.slice a l.length cap)) 29) (.cells (hc h (.slice b l.length cap')) 29)
 have hgB := heap_alloc2_new w (.cells (hc h (.slice a l.length cap)) 29) (.cells (hc h (.slice b l.length cap')) 29)
 have hAA := hgA
 have hBB := hgB
 replace hgA := Lib.hid hgA
 replace hgB := Lib.hid hgB
 replace hAA := cells_at hAA
 replace hBB := cells_at hBB
 have hml : l.length ≤ 9223372036854775807 := by have h1 := ha.le; have h2 := ha.capm; unfold maxLen at h2; omega
 go_enter Try.func27, Try.ntmps27
 go_wp2_with (first | go_skip | (refine ld_mid 24 _ rfl rfl _ _ rfl _ _ (accs h) _ _ hgA.out Try.underlying24 rfl info25 (hc_accs h _) ?_) | (refine ld_mid 24 _ rfl rfl _ _ rfl _ _ (accs h) _ _ hgB.out Try.underlying24 rfl info25 (hc_accs h _) ?_) | (refine ld_mid 26 _ rfl rfl _ _ rfl _ _ (sents h) _ _ hgA.out Try.underlying26 rfl info27 (hc_sents h _) ?_) | (refine ld_mid 26 _ rfl rfl _ _ rfl _ _ (sents h) _ _ hgB.out Try.underlying26 rfl info27 (hc_sents h _) ?_) | (refine ld_mid 26 _ rfl rfl _ _ rfl _ _ (lims h) _ _ hgA.out Try.underlying26 rfl info27 (hc_lims h _) ?_) | (refine ld_mid 26 _ rfl rfl _ _ rfl _ _ (lims h) _ _ hgB.out Try.underlying26 rfl info27 (hc_lims h _) ?_))
 clear hAA hBB
 go_loopg [44] l.length (fun g i wr => ∃ k : Nat, k ≤ l.length ∧ g = l.length - k ∧ i = .int .i64 k ∧ wr.heap[w.heap.size]? = some (.cells (hc h (.slice a l.length cap)) 29 (0, 0)) ∧ wr.heap[w.heap.size + 1]? = some (.cells (hc h (.slice b l.length cap')) 29 (0, 0)) ∧ Below w.heap.size w wr)
 case atStart => exact ⟨0, by omega, rfl, rfl, hgA.out, hgB.out, ((Below.refl _ _).alloc (Nat.le_refl _) _).alloc (by simp) _⟩
 case round =>
  clear hgA hgB
  obtain ⟨k, hk, rfl, rfl, hgA, hgB, hbw⟩ := hrel
  by_cases h4 : k < l.length
  ·obtain ⟨p, hpk⟩ : ∃ p, l[k]? = some p := ⟨l[k], List.getElem?_eq_getElem h4⟩
   obtain ⟨b1, o1, rfl, _, _⟩ := ha.row (by omega)
   obtain ⟨b2, o2, rfl, _, _⟩ := hb.row (by omega)
   obtain ⟨x0, x1, x2, x3, x4, x5⟩ := (ha.below hbw).six hpk
   obtain ⟨y0, y1, y2, y3, y4, y5⟩ := (hb.below hbw).six hpk
   have hcA := cells_at hgA
   have hcB := cells_at hgB
   clear ha hb hpk
   go_wp2
   go_quiet (fail)
   go_wp2
   go_roundg (l.length - (k + 1))
   case measure => omega
   case rel => exact ⟨k + 1, by omega, rfl, by go_num, hgA, hgB, below_drewN hbw _⟩
  ·have hd : decide ((k : Int) < l.length) = false := by simp; omega
   go_wp2
   go_ret
   exact ⟨rfl, hbw⟩
end Go.Proofs.Ytggfdkkhlokmlab

namespace Go.Proofs.Ytggfdkkhlokmlab
open Go.RowKit

/-- A world that meets I (a type of its own, so that simp does not take it apart). -/
structure Wd (I : World → Prop) where
 w : World
 ok : I w
instance wdBelow (W : World) : Nonempty (Wd (Below W.heap.size W)) := ⟨⟨W, Below.refl _ _⟩⟩
section
variable {P : Program} {ops : Array Oper} {a : Act} {o : Oper} {I : World → Prop}
theorem calm_region {id : Nat} {Q : Exit → Act → World → Prop} {w : World} {l : List Oper} (I : World → Prop) (hm : P.follows .mixedOrders = true) (hB : Region.lexB .any l.toArray = true) (hI : I w.drew)
  (h : wpQuiet P l.toArray (fun w' => ∃ x : Wd I, w' = x.w) (fun a' => ∀ w', I w' → Q .normal a' w') l a) : (Code.region id l.toArray true).wp P Q a w :=
 wp_region_quiet (C := fun w' => ∃ x : Wd I, w' = x.w) hm hB ⟨⟨_, hI⟩, rfl⟩ (by
  have : (fun a' => ∀ w', (∃ x : Wd I, w' = x.w) → Q .normal a' w') = (fun a' => ∀ w', I w' → Q .normal a' w') := by
   funext a'
   apply propext
   exact ⟨fun h w' hw => h w' ⟨⟨w', hw⟩, rfl⟩, fun h w' ⟨x, hx⟩ => by subst hx; exact h _ x.ok⟩
  rw [this]
  simpa using h)
theorem calm_call {f : FuncId} {args : Array Value} {x : Wd I} {v : Value} (hI : ∀ w w', I w → Below w.heap.size w w' → I w') (h : Calls P f args x.w fun e w' => e = .returned v ∧ Below x.w.heap.size x.w w') :
  Calls P f args x.w fun e w'' => e = .returned v ∧ ∃ y : Wd I, w'' = y.w :=
 h.mono fun _ w' ⟨he, hb⟩ => ⟨he, ⟨w', hI _ _ x.ok hb⟩, rfl⟩
theorem calm_row {K : Act → Prop} (ty : TypeId) (x : Operand) (ho : o.op = .load ty x)
  (g : Nat) (hx : a.eval x = .pointer (some ⟨g, 0, none⟩)) (t : TypeId) (cs : Array Value) (fr : Nat × Nat) (d : TypeDesc) (hg : ∀ w, I w → w.heap[g]? = some (.cells cs t fr))
  (hu : P.underlying ty = some d) (hd : (match d with | .struct _ | .array _ _ => true | _ => false) = true) (hi : (P.info? ty).map (·.size) = some cs.size)
  (h : K (a.put o.dst (.agg cs))) : o.quiet P a (fun w' => ∃ x : Wd I, w' = x.w) K :=
 ⟨_, fun w ⟨y, hy⟩ => by
  subst hy
  unfold Oper.quietAt execOp
  simp only [ho, hx, Instr.loadAt, Instr.sureAddr, Sem.run_bind, Sem.run_pure, Result.andThen_ok, run_loadVar_row y.w g t ty cs fr d (hg _ y.ok) hu hd hi]
  exact ⟨rfl, rfl⟩, h⟩
end
theorem calm_below (W : World) : ∀ w w', Below W.heap.size W w → Below w.heap.size w w' → Below W.heap.size W w' := fun _ _ h h' => h.trans (h'.mono h.size)
theorem calm_start (W : World) : Below W.heap.size W W.drew := (Below.refl _ _).drew
theorem calm_heap {W : World} {b : Nat} {o : Obj} (h : W.heap[b]? = some o) : ∀ w, Below W.heap.size W w → w.heap[b]? = some o := fun _ hb => hkeep hb h
theorem calm_cells {W : World} {b : Nat} {cs : Array Value} {t : TypeId} (h : W.heap[b]? = some (.cells cs t (0, 0))) : ∀ (x : Wd (Below W.heap.size W)) (o : Nat), x.w.cell? ⟨b, o, none⟩ = cs[o]? := fun x o => cells_at (hkeep x.ok h) o
end Go.Proofs.Ytggfdkkhlokmlab

namespace Go.Proofs.Ytggfdkkhlokmlab
open Go.RowKit
def icells (l : List Int) : List Value := l.map (Value.int .i64)
/-- Ints in a row of the call's own. -/
def OwnInts (w : World) (base : Nat) (v : Value) (l : List Int) : Prop := w.ownsRow base 3 1 v l.length (icells l) ∧ l.length * 8 ≤ 140737488355328
theorem info3z : ∃ (i : TypeInfo) (z : Value), Try.prog.info? 3 = some i ∧ i.zero = some z ∧ i.size = 1 ∧ i.bytes = 8 ∧ z.cells.size = 1 := by
 have h : (Try.prog.info? 3).map (fun i => (i.zero.map (·.cells.size), i.size, i.bytes)) = some (some 1, 1, 8) := by kernel_rfl
 cases hq : Try.prog.info? 3 with
 | none => simp [hq] at h
 | some i =>
  simp only [hq, Option.map_some, Option.some.injEq, Prod.mk.injEq] at h
  obtain ⟨h1, h2, h3⟩ := h
  cases hz : i.zero with
  | none => simp [hz] at h1
  | some z => exact ⟨i, z, rfl, hz, h2, h3, by simpa [hz] using h1⟩
theorem icells_get {l : List Int} {i : Nat} {n : Int} (h : l[i]? = some n) : (icells l)[i]? = some (.int .i64 n) := by simp [icells, h]
theorem icells_snoc (l : List Int) (n : Int) : icells (l ++ [n]) = icells l ++ [.int .i64 n] := by simp [icells]
theorem OwnInts.nil (w : World) (base : Nat) : OwnInts w base (.slice none 0 0) [] := ⟨⟨rfl, .inl ⟨rfl, rfl⟩⟩, by simp⟩
theorem OwnInts.at_ {w : World} {base : Nat} {v : Value} {l : List Int} (h : OwnInts w base v l) : ∃ a cap, v = .slice a l.length cap ∧ IntsAt w a cap l ∧ (∀ b off s, a = some ⟨b, off, s⟩ → base ≤ b) := by
 obtain ⟨⟨hlen, hv⟩, hroom⟩ := h
 rcases hv with ⟨rfl, h0⟩ | ⟨g, cap, cur, rfl, hb, hg, hn, hc, hsz, htake⟩
 ·exact ⟨none, 0, by rw [h0], ⟨by omega, by simp [maxLen], hroom, fun _ => rfl, fun h => absurd h (by omega)⟩, by simp⟩
 ·refine ⟨some ⟨g, 0, none⟩, cap, rfl, ⟨hn, hc, hroom, by simp, fun _ => ⟨g, 0, rfl, hlt hg, fun i n hi => ?_⟩⟩, fun b off s e => by cases e; exact hb⟩
  have h1 := icells_get hi
  have hlt := (List.getElem?_eq_some_iff.1 hi).1
  rw [← htake, List.getElem?_take_of_lt (by omega)] at h1
  rw [Nat.zero_add, cells_at hg]
  simpa using h1
theorem OwnInts.below {w w' : World} {base : Nat} {v : Value} {l : List Int} (h : OwnInts w base v l) (hb : Below w.heap.size w w') : OwnInts w' base v l := by
 obtain ⟨⟨hlen, hv⟩, hroom⟩ := h
 refine ⟨⟨hlen, ?_⟩, hroom⟩
 rcases hv with h0 | ⟨g, cap, cur, rfl, hb', hg, hrest⟩
 ·exact .inl h0
 ·exact .inr ⟨g, cap, cur, rfl, hb', hkeep hb hg, hrest⟩
theorem OwnInts.alloc {w : World} {base : Nat} {v : Value} {l : List Int} (h : OwnInts w base v l) (o : Obj) : OwnInts (w.alloc o) base v l := h.below ((Below.refl _ _).alloc (Nat.le_refl _) _)
theorem OwnInts.mono {w : World} {base base' : Nat} {v : Value} {l : List Int} (h : OwnInts w base v l) (hb : base' ≤ base) : OwnInts w base' v l := by
 obtain ⟨⟨hlen, hv⟩, hroom⟩ := h
 refine ⟨⟨hlen, ?_⟩, hroom⟩
 rcases hv with h0 | ⟨g, cap, cur, rfl, hb', hrest⟩
 ·exact .inl h0
 ·exact .inr ⟨g, cap, cur, rfl, by omega, hrest⟩
theorem OwnInts.one {w : World} {base : Nat} {v : Value} {l : List Int} (h : OwnInts w base v l) : v.oneCell' = true := by
 obtain ⟨a, cap, rfl, _⟩ := h.at_
 rfl
/-- Behind an append of one int: what append's law leaves. -/
theorem OwnInts.snoc {w : World} {base : Nat} {v : Value} {l : List Int} {n : Int} {m : Nat} (hm : m = l.length + 1) (hl : l.length + 1 ≤ 17592186044416) (h : w.ownsRow base 3 1 v m (icells l ++ [.int .i64 n])) : OwnInts w base v (l ++ [n]) := by
 subst hm
 refine ⟨?_, by simp; omega⟩
 rw [icells_snoc]
 simpa using h
theorem OwnInts.own {w : World} {base : Nat} {v : Value} {l : List Int} (h : OwnInts w base v l) {x : Nat} (hx : v.ownBlock = some x) : base ≤ x := by
 rcases h.1.2 with ⟨rfl, _⟩ | ⟨g', cap, cur, rfl, hb', _⟩
 ·simp [Value.ownBlock] at hx
 ·simp [Value.ownBlock] at hx; omega
theorem cell_new1 (w : World) (v : Value) (t : TypeId) : ∀ (j : Nat) (u : Value), [v][j]? = some u → (w.alloc (.cells #[v] t)).cell? ((⟨w.heap.size, 0, none⟩ : Addr).add j) = some u := by
 intro j u hu
 obtain rfl : j = 0 := by have := (List.getElem?_eq_some_iff.1 hu).1; simpa using this
 have e : (⟨w.heap.size, 0, none⟩ : Addr).add 0 = ⟨w.heap.size, 0, none⟩ := by simp [Addr.add]
 rw [e]
 exact (cells_at (hnew w (.cells #[v] t)) 0).trans (by simpa using hu)
end Go.Proofs.Ytggfdkkhlokmlab

namespace Go.Proofs.Ytggfdkkhlokmlab
open Go.RowKit
theorem cell_newB {w w2 : World} {v : Value} {t : TypeId} (hb : Below (w.alloc (.cells #[v] t)).heap.size (w.alloc (.cells #[v] t)) w2) : ∀ (j : Nat) (u : Value), [v][j]? = some u → w2.cell? ((⟨w.heap.size, 0, none⟩ : Addr).add j) = some u := by
 intro j u hu
 obtain rfl : j = 0 := by have := (List.getElem?_eq_some_iff.1 hu).1; simpa using this
 have e : (⟨w.heap.size, 0, none⟩ : Addr).add 0 = ⟨w.heap.size, 0, none⟩ := by simp [Addr.add]
 rw [e]
 exact (hb.cell (p := ⟨w.heap.size, 0, none⟩) (by simp)).trans ((cells_at (hnew w (.cells #[v] t)) 0).trans (by simpa using hu))
section
variable {P : Program} (w : World)
theorem run_append_fresh (base : Nat) (t ty e : TypeId) (i : TypeInfo) (z : Value) (size bytes : Nat) (ht : P.underlying t = some (.slice e)) (hi : P.info? e = some i) (hz : i.zero = some z)
  (hsize : i.size = size) (hby : i.bytes = bytes) (hzs : z.cells.size = size) (hsz : 0 < size) (v : Value) (n : Nat) (xs : List Value) (hown : w.ownsRow base e size v n xs)
  (a : Addr) (m c : Nat) (news : List Value) (hl : news.length = m * size) (hnews : ∀ j u, news[j]? = some u → w.cell? (a.add j) = some u) (h1 : ∀ u ∈ news, u.oneCell' = true)
  (h63 : n + m ≤ maxLen) (hbytes : (n + m) * bytes ≤ 140737488355328) (hbase : base ≤ w.heap.size) :
  ∃ v' w', (Builtin.append_ #[t, t] ty #[v, .slice (some a) m c]).run P w = .ok v' w' ∧ w'.ownsRow base e size v' (n + m) (xs ++ news) ∧ w.grownBy w' v.ownBlock ∧ ∀ x, v'.ownBlock = some x → v.ownBlock = some x ∨ w.heap.size ≤ x := by
 obtain ⟨v', w', hr, h2, h3, _⟩ := run_append_own (P := P) w base t ty e i z size bytes ht hi hz hsize hby hzs hsz v n xs hown a m c news hl hnews h1 h63 hbytes hbase
 refine ⟨v', w', hr, h2, h3, fun x hx => ?_⟩
 rcases hown.2 with ⟨rfl, rfl⟩ | ⟨g, cap, cur, rfl, hbg, hg, hnc, hcm, hcs, htake⟩
 ·obtain ⟨v2, w2, hr2, h4, _, _⟩ := run_append_own (P := P) w w.heap.size t ty e i z size bytes ht hi hz hsize hby hzs hsz (.slice none 0 0) 0 xs ⟨hown.1, .inl ⟨rfl, rfl⟩⟩ a m c news hl hnews h1 h63 hbytes (Nat.le_refl _)
  rw [hr] at hr2
  cases hr2
  rcases h4.2 with ⟨rfl, _⟩ | ⟨g, _, _, rfl, hb, _⟩
  ·simp [Value.ownBlock] at hx
  ·simp [Value.ownBlock] at hx; exact .inr (by omega)
 ·subst hsize
  subst hby
  by_cases hroom : n + m ≤ cap
  ·have hfit : n * i.size + news.length ≤ cur.size := by rw [hl, hcs, ← Nat.add_mul]; exact Nat.mul_le_mul_right _ hroom
   have hr2 := run_append_room (P := P) w t ty e i ht hi g n cap cur hg a m c news hl hnews h1 hroom hfit
   rw [hr] at hr2
   cases hr2
   exact .inl hx
  ·have holds : ∀ j u, xs[j]? = some u → w.cell? ((⟨g, 0, none⟩ : Addr).add j) = some u := hown.cells (g := g) rfl
   have hr2 := run_append_grow (P := P) w t ty e i z ht hi hz ⟨g, 0, none⟩ n cap xs hown.1 holds a m c news hl hnews (by omega) (by simp only [maxLen] at h63; omega) (growslice_fits (by omega) hbytes)
   rw [hr] at hr2
   cases hr2
   simp [Value.ownBlock] at hx
   exact .inr (by omega)
theorem wpList_append_fresh {ops : Array Oper} {rest : List Oper} {o : Oper} {a : Act} {Q : Exit → Act → World → Prop} (hgd : o.guard = none) (s x : Operand) (t : TypeId)
  (ho : o.op = .call { callee := .builtin .append, args := #[s, x], argTypes := #[t, t] })
  (base : Nat) (e : TypeId) (i : TypeInfo) (z : Value) (size bytes : Nat) (ht : P.underlying t = some (.slice e)) (hi : P.info? e = some i) (hz : i.zero = some z)
  (hsize : i.size = size) (hby : i.bytes = bytes) (hzs : z.cells.size = size) (hsz : 0 < size)
  (v : Value) (n : Nat) (xs : List Value) (hs : a.eval s = v) (hown : w.ownsRow base e size v n xs)
  (ad : Addr) (m c : Nat) (news : List Value) (hx : a.eval x = .slice (some ad) m c) (hl : news.length = m * size) (hnews : ∀ j u, news[j]? = some u → w.cell? (ad.add j) = some u) (h1 : ∀ u ∈ news, u.oneCell' = true)
  (h63 : n + m ≤ maxLen) (hbytes : (n + m) * bytes ≤ 140737488355328) (hbase : base ≤ w.heap.size)
  (h : ∀ v' w', w'.ownsRow base e size v' (n + m) (xs ++ news) → w.grownBy w' v.ownBlock → (∀ x, v'.ownBlock = some x → v.ownBlock = some x ∨ w.heap.size ≤ x) → wpList P ops Q rest (a.put o.dst v') w') : wpList P ops Q (o :: rest) a w :=
 wpList_plain hgd fun _ hK => by
  obtain ⟨v', w', hr, h2, h3, h4⟩ := run_append_fresh (P := P) w base t o.type e i z size bytes ht hi hz hsize hby hzs hsz v n xs hown ad m c news hl hnews h1 h63 hbytes hbase
  unfold Oper.wp execOp
  simp only [ho, resolve, invoke, builtin, Sem.run_bind, Sem.run_pure, Result.andThen_ok, List.map_toArray, List.map_cons, List.map_nil, hs, hx, hr]
  exact hK _ _ (h v' w' h2 h3 h4)
end
end Go.Proofs.Ytggfdkkhlokmlab

namespace Go.Proofs.Ytggfdkkhlokmlab
open Go.RowKit
section
variable {P : Program} {ops : Array Oper} {Q : Exit → Act → World → Prop} {md : Region.Mode} {I : World → Prop} {g : Nat}
/-- Whatever order is picked from here on; till g has come up, I holds. -/
def wpG (P : Program) (md : Region.Mode) (ops : Array Oper) (Q : Exit → Act → World → Prop) (I : World → Prop) (g : Nat) : Nat → Array Bool → Act → World → Prop
 | 0, listed, a, w => Region.ready md ops listed = [] ∧ Q .normal a w
 | fuel + 1, listed, a, w =>
  (Region.ready md ops listed = [] → Q .normal a w) ∧
  ∀ i ∈ Region.ready md ops listed, wpOp P ops Q i (fun a' w' => ((listed.setIfInBounds i true).getD g true = false → I w') ∧ wpG P md ops Q I g fuel (listed.setIfInBounds i true) a' w') a w
theorem wpG_any : ∀ (fuel : Nat) (listed : Array Bool) (a : Act) (w : World), wpG P md ops Q I g fuel listed a w → wpAny P md ops Q fuel listed a w
 | 0, _, _, _, h => h
 | fuel + 1, _, _, _, h => ⟨h.1, fun i hi => wpOp_mono (fun a' w' h' => wpG_any fuel _ a' w' h'.2) (h.2 i hi)⟩
/-- k waits for j. -/
def depB (md : Region.Mode) (ops : Array Oper) (k j : Nat) : Bool := match ops[k]? with
 | some o => o.after.any fun e => Region.binds md e && e.on == j
 | none => false
/-- k waits for the first of c, that for the next, and so on. -/
def chainB (md : Region.Mode) (ops : Array Oper) : Nat → List Nat → Bool
 | _, [] => true
 | k, j :: r => depB md ops k j && chainB md ops j r
/-- Whatever is listed: so is all that it waits for. -/
def Closed (md : Region.Mode) (ops : Array Oper) (listed : Array Bool) : Prop := ∀ k j, depB md ops k j = true → listed.getD k false = true → listed.getD j false = true
theorem ready_dep {listed : Array Bool} {k j : Nat} (hk : k ∈ Region.ready md ops listed) (hd : depB md ops k j = true) : listed.getD j false = true := by
 obtain ⟨_, o, ho, hall⟩ := mem_ready.1 hk
 simp only [depB, ho, Array.any_eq_true', Bool.and_eq_true, beq_iff_eq] at hd
 obtain ⟨e, he, hb, rfl⟩ := hd
 exact hall e he hb
theorem Closed.set {listed : Array Bool} (h : Closed md ops listed) {k : Nat} (hk : k ∈ Region.ready md ops listed) : Closed md ops (listed.setIfInBounds k true) := by
 intro k' j hd hl
 refine getD_set_true ?_
 by_cases e : k = k'
 ·subst e; exact ready_dep hk hd
 ·rw [getD_set_ne false e] at hl; exact h k' j hd hl
theorem chain_listed {listed : Array Bool} (hc : Closed md ops listed) : ∀ (c : List Nat) (k : Nat), chainB md ops k c = true → (∀ j, depB md ops k j = true → listed.getD j false = true) → ∀ i ∈ c, listed.getD i false = true
 | [], _, _, _, i, hi => by cases hi
 | j :: r, k, hch, hk, i, hi => by
  simp only [chainB, Bool.and_eq_true] at hch
  have hj := hk j hch.1
  rcases List.mem_cons.1 hi with rfl | hi
  ·exact hj
  ·exact chain_listed hc r j hch.2 (fun j' hd => hc j j' hd hj) i hi
theorem getD_both {listed : Array Bool} {i : Nat} (h1 : listed.getD i true = false) (h2 : listed.getD i false = true) : False := by
 by_cases hi : i < listed.size
 ·simp [hi] at h1 h2; rw [h1] at h2; cases h2
 ·simp [hi] at h1
theorem wpG_take {i : Nat} {oi : Oper} {v : Value} (hi : ops[i]? = some oi) (hs : Region.noSelect ops = true) (hQ : ∀ c a w, Q (.panic c) (a.put oi.dst v) w → Q (.panic c) a w) {c : List Nat} (hch : chainB md ops g c = true) (hic : i ∈ c) (hgi : g ≠ i) :
  ∀ (fuel : Nat) (listed : Array Bool) (a : Act) (w : World), g < listed.size →
   (∀ j oj, ops[j]? = some oj → j ≠ i → listed.getD j true = false → (∀ e ∈ oj.after, Region.binds md e = true → e.on ≠ i) → oi.apart ops oj = true) →
   i ∈ Region.ready md ops listed → Closed md ops listed → YieldsIf P ops I oi v a → I w →
   wpG P md ops Q I g fuel (listed.setIfInBounds i true) (a.put oi.dst v) w → wpG P md ops Q I g (fuel + 1) listed a w := by
 intro fuel
 induction fuel with
 | zero =>
  intro listed a w _ _ hr _ hy hI H
  refine ⟨fun h => (by rw [h] at hr; cases hr), fun j hj => ?_⟩
  by_cases hji : j = i
  ·subst hji; exact hy.wpOp hi hI ⟨fun _ => hI, H⟩
  ·have := ready_mono hj hji
   rw [H.1] at this
   cases this
 | succ fuel ih =>
  intro listed a w hgs hfree hr hc hy hI H
  refine ⟨fun h => (by rw [h] at hr; cases hr), fun j hj => ?_⟩
  by_cases hji : j = i
  ·subst hji; exact hy.wpOp hi hI ⟨fun _ => hI, H⟩
  ·have h1 := H.2 j (ready_mono hj hji)
   obtain ⟨hjun, oj, hoj, hall⟩ := mem_ready.1 hj
   have hiu := (mem_ready.1 hr).1
   have hnot : ∀ e ∈ oj.after, Region.binds md e = true → e.on ≠ i := fun e he hb heq => getD_both hiu (heq ▸ hall e he hb)
   have hjg : j ≠ g := by
    rintro rfl
    exact getD_both hiu (chain_listed hc c j hch (fun j' hd => ready_dep hj hd) i hic)
   have hgu : listed.getD g true = false := by
    cases hb : listed.getD g true with
    | false => rfl
    | true =>
     exfalso
     have h2 : listed.getD g false = true := by simpa [hgs] using hb
     exact getD_both hiu (chain_listed hc c g hch (fun j' hd => hc g j' hd h2) i hic)
   have h2 := wpOp_putIf hoj (hfree j oj hoj hji hjun hnot) (fun cs b => Region.noSelect_spec hs i oi cs b hi) (fun cs b => Region.noSelect_spec hs j oj cs b hoj) hQ hy h1
   have hfree' : ∀ k ok, ops[k]? = some ok → k ≠ i → (listed.setIfInBounds j true).getD k true = false → (∀ e ∈ ok.after, Region.binds md e = true → e.on ≠ i) → oi.apart ops ok = true := fun k ok hk hki hun hno => by
    refine hfree k ok hk hki ?_ hno
    by_cases hjk : j = k
    ·subst hjk; exact hjun
    ·rw [getD_set_ne true hjk] at hun; exact hun
   refine wpOp_mono (fun a' w' h3 => ?_) h2
   have hI' : I w' := h3.2.1 (by rw [getD_set_ne true hjg, getD_set_ne true (Ne.symm hgi)]; exact hgu)
   refine ⟨fun _ => hI', ih (listed.setIfInBounds j true) a' w' (by simpa using hgs) hfree' (ready_mono hr (Ne.symm hji)) (hc.set hj) h3.1 hI' ?_⟩
   rw [Array.setIfInBounds_comm _ _ hji]
   exact h3.2.2
/-- What stands behind one operation. -/
def stepQ (Q : Exit → Act → World → Prop) (K : Act → World → Prop) : Exit → Act → World → Prop
 | .normal, a, w => K a w
 | e, a, w => Q e a w
theorem wpOp_of_list {i : Nat} {o : Oper} {K : Act → World → Prop} {a : Act} {w : World} (ho : ops[i]? = some o) (h : wpList P ops (stepQ Q K) [o] a w) : wpOp P ops Q i K a w := by
 unfold wpOp
 simp only [ho]
 unfold wpList at h
 split
 ·rename_i hw
  simp only [hw, if_true] at h
  rcases h with h | ⟨h1, a', w', h2⟩
  ·refine .inl ?_
   unfold Oper.wp at *
   generalize (execOp a.eval o).run P w = r at *
   cases r with
   | ok n w' =>
    cases n <;> simp only [Oper.upon] at h ⊢
    case value => exact h
    case skip => exact h
    case defer => exact h
    case enter f args =>
     refine Calls.mono h fun e w'' he => ?_
     cases e with
     | returned u => exact he
     | panicked c => exact he
     | outgrown => obtain ⟨a, w, h⟩ := he; exact ⟨a, w, h⟩
    case row row args => exact Rows.mono h fun u w'' he => he
   | halt x w' =>
    cases x <;> simp only [Oper.upon] at h ⊢
    case panic u => exact h
  ·exact .inr ⟨h1, a', w', h2⟩
 ·rename_i hw
  simp only [hw, Bool.false_eq_true, if_false] at h
  exact h
theorem wpG_one {i fuel : Nat} {o : Oper} {listed : Array Bool} {a : Act} {w : World} (hr : Region.ready md ops listed = [i]) (ho : ops[i]? = some o)
  (h : wpList P ops (stepQ Q fun a' w' => I w' ∧ wpG P md ops Q I g fuel (listed.setIfInBounds i true) a' w') [o] a w) : wpG P md ops Q I g (fuel + 1) listed a w :=
 ⟨fun h0 => (by rw [h0] at hr; cases hr), fun j hj => by
  rw [hr] at hj
  obtain rfl := List.mem_singleton.1 hj
  exact wpOp_mono (fun a' w' h => ⟨fun _ => h.1, h.2⟩) (wpOp_of_list ho h)⟩
theorem wpG_two {i j fuel : Nat} {o u : Oper} {listed : Array Bool} {a : Act} {w : World} (hr : Region.ready md ops listed = [i, j]) (ho : ops[i]? = some o) (hu : ops[j]? = some u)
  (h1 : wpList P ops (stepQ Q fun a' w' => I w' ∧ wpG P md ops Q I g fuel (listed.setIfInBounds i true) a' w') [o] a w)
  (h2 : wpList P ops (stepQ Q fun a' w' => I w' ∧ wpG P md ops Q I g fuel (listed.setIfInBounds j true) a' w') [u] a w) : wpG P md ops Q I g (fuel + 1) listed a w :=
 ⟨fun h0 => (by rw [h0] at hr; cases hr), fun k hk => by
  rw [hr] at hk
  rcases List.mem_cons.1 hk with rfl | hk
  ·exact wpOp_mono (fun a' w' h => ⟨fun _ => h.1, h.2⟩) (wpOp_of_list ho h1)
  ·obtain rfl := List.mem_singleton.1 hk
   exact wpOp_mono (fun a' w' h => ⟨fun _ => h.1, h.2⟩) (wpOp_of_list hu h2)⟩
/-- The rest comes up in one order alone. -/
def tailB (md : Region.Mode) (ops : Array Oper) (g : Nat) : List Nat → Array Bool → Bool
 | [], listed => (Region.ready md ops listed).isEmpty
 | i :: is, listed => Region.ready md ops listed == [i] && (listed.setIfInBounds i true).getD g true && tailB md ops g is (listed.setIfInBounds i true)
theorem wpG_tail : ∀ (is : List Nat) (os : List Oper) (listed : Array Bool) (a : Act) (w : World), tailB md ops g is listed = true → is.map (ops[·]?) = os.map some → wpList P ops Q os a w → wpG P md ops Q I g is.length listed a w
 | [], [], listed, a, w, ht, _, h => ⟨by simpa [tailB] using ht, h⟩
 | [], _ :: _, _, _, _, _, ho, _ => by simp at ho
 | _ :: _, [], _, _, _, _, ho, _ => by simp at ho
 | i :: is, o :: os, listed, a, w, ht, ho, h => by
  simp only [tailB, Bool.and_eq_true, beq_iff_eq] at ht
  obtain ⟨⟨hr, hg⟩, ht⟩ := ht
  simp only [List.map_cons, List.cons.injEq] at ho
  refine ⟨fun h0 => (by rw [h0] at hr; cases hr), fun j hj => ?_⟩
  rw [hr] at hj
  obtain rfl := List.mem_singleton.1 hj
  have h1 : wpOp P ops Q j (wpList P ops Q os) a w := by
   unfold wpOp
   simp only [ho.1]
   exact h
  exact wpOp_mono (fun a' w' h' => ⟨fun e => (by rw [hg] at e; cases e), wpG_tail is os _ a' w' ht ho.2 h'⟩) h1
/-- The start. -/
theorem wpG_start {id : Nat} {l : List Oper} {a : Act} {w : World} (I : World → Prop) (g : Nat) (hm : P.follows .mixedOrders = true) (h : wpG P .any l.toArray Q I g l.length (Array.replicate l.length false) a w.drew) : (Code.region id l.toArray true).wp P Q a w :=
 wp_region_any hm (wpG_any _ _ _ _ (by simpa using h))
def closedB (md : Region.Mode) (ops : Array Oper) (listed : Array Bool) : Bool := (List.range ops.size).all fun k => !listed.getD k false || (match ops[k]? with
 | some o => o.after.all fun e => !Region.binds md e || listed.getD e.on false
 | none => true)
theorem closed_of {listed : Array Bool} (h : closedB md ops listed = true) : Closed md ops listed := by
 intro k j hd hl
 unfold depB at hd
 cases ho : ops[k]? with
 | none => rw [ho] at hd; cases hd
 | some o =>
  simp only [ho, Array.any_eq_true', Bool.and_eq_true, beq_iff_eq] at hd
  obtain ⟨e, he, hb, rfl⟩ := hd
  have hk := (Array.getElem?_eq_some_iff.1 ho).1
  have h1 := List.all_eq_true.1 h k (List.mem_range.2 hk)
  simp only [ho, hl, Bool.not_true, Bool.false_or] at h1
  have h2 := Array.all_eq_true_iff_forall_mem.1 h1 e he
  simpa [hb] using h2
/-- An operation that yields its value in every world that meets I is taken first. -/
theorem wpG_first {i fuel : Nat} {oi : Oper} {v : Value} {listed : Array Bool} {a : Act} {w : World} (c : List Nat) (hi : ops[i]? = some oi) (hs : Region.noSelect ops = true) (hf : Region.free md ops listed i = true) (hr : (Region.ready md ops listed).contains i = true)
  (hch : (chainB md ops g c && c.contains i && (g != i) && closedB md ops listed && decide (g < listed.size)) = true) (hQ : ∀ c a w, Q (.panic c) (a.put oi.dst v) w → Q (.panic c) a w) (hI : I w) (hy : YieldsIf P ops I oi v a)
  (h : wpG P md ops Q I g fuel (listed.setIfInBounds i true) (a.put oi.dst v) w) : wpG P md ops Q I g (fuel + 1) listed a w := by
 simp only [Bool.and_eq_true, bne_iff_ne, ne_eq, decide_eq_true_eq] at hch
 obtain ⟨⟨⟨⟨h1, h2⟩, h3⟩, h4⟩, h5⟩ := hch
 exact wpG_take hi hs hQ h1 (by simpa using h2) h3 fuel listed a w h5 (Region.free_spec hi hf) (by simpa using hr) (closed_of h4) hy hI h
theorem yields_row {o : Oper} {a : Act} (ty : TypeId) (x : Operand) (ho : o.op = .load ty x) (hw : Region.wanted o (yielded ops a.tmps) = true) (b : Nat) (hx : a.eval x = .pointer (some ⟨b, 0, none⟩)) (t : TypeId) (cs : Array Value) (fr : Nat × Nat) (d : TypeDesc) (hg : ∀ w, I w → w.heap[b]? = some (.cells cs t fr))
  (hu : P.underlying ty = some d) (hd : (match d with | .struct _ | .array _ _ => true | _ => false) = true) (hi : (P.info? ty).map (·.size) = some cs.size) : YieldsIf P ops I o (.agg cs) a :=
 .inl ⟨hw, fun w hI => by
  unfold execOp
  simp only [ho, hx, Instr.loadAt, Instr.sureAddr, Sem.run_bind, Sem.run_pure, Result.andThen_ok, run_loadVar_row w b t ty cs fr d (hg w hI) hu hd hi]⟩
theorem wpG_drop {l : List Oper} (n : Nat) {k : Nat} {listed : Array Bool} {a : Act} {w : World} (hk : k = l.length - n) (ht : tailB md l.toArray g (List.range' n (l.length - n)) listed = true) (h : wpList P l.toArray Q (l.drop n) a w) : wpG P md l.toArray Q I g k listed a w := by
 have h1 := wpG_tail (I := I) (List.range' n (l.length - n)) (l.drop n) listed a w ht (by
  apply List.ext_getElem?
  intro j
  by_cases hj : j < l.length - n
  ·simp [hj]
  ·rw [List.getElem?_eq_none (by simp; omega), List.getElem?_eq_none (by simp; omega)]) h
 rw [List.length_range'] at h1
 rw [hk]; exact h1
end
end Go.Proofs.Ytggfdkkhlokmlab

namespace Go.Proofs.Ytggfdkkhlokmlab
open Go.RowKit

structure CellOk (h : Hs) (i k : Int) : Prop where
 s : sm 0 (h.sent i k) 1099511627776 = true
 l : sm (-1) (h.lim i k) 1000000 = true
 d : i = k → h.sent i k = 0
structure BankOk (h : Hs) (i : Int) : Prop where
 has : sm (-1099511627776) (h.has i) 1099511627776 = true
 cr : sm 0 (h.cr i) 1000000 = true
 cells : ∀ k : Int, 0 ≤ k → k < 4 → CellOk h i k
/-- A house is one (P1.3). -/
structure GoodP (h : Hs) (l : List Pay) : Prop where
 len : l.length ≤ 24
 next : sm 0 h.next 1048576 = true
 banks : ∀ i : Int, 0 ≤ i → i < 4 → BankOk h i
 pays : ∀ p ∈ l, goodPay p = true ∧ p.seq < h.next
 nodup : (l.map (·.seq)).Nodup
open Classical in
noncomputable def goodB (h : Hs) (l : List Pay) : Bool := decide (GoodP h l)
theorem goodB_no {h : Hs} {l : List Pay} (hn : ¬ GoodP h l) : goodB h l = false := by simp [goodB, hn]
theorem goodB_yes {h : Hs} {l : List Pay} (hn : GoodP h l) : goodB h l = true := by simp [goodB, hn]
theorem goodB_true {h : Hs} {l : List Pay} (hn : goodB h l = true) : GoodP h l := by simpa [goodB] using hn
theorem goodB_false {h : Hs} {l : List Pay} (hn : goodB h l = false) : ¬ GoodP h l := by simpa [goodB] using hn

theorem GoodP.room {h : Hs} {l : List Pay} (g : GoodP h l) : h.Room where
 has := fun i h0 h1 => by have := sm_true (g.banks i h0 h1).has; omega
 cr := fun i h0 h1 => sm_true (g.banks i h0 h1).cr
 sent := fun i k h0 h1 k0 k1 => by have := sm_true ((g.banks i h0 h1).cells k k0 k1).s; omega

theorem seq_fresh {l : List Pay} (hn : (l.map (·.seq)).Nodup) {m : Nat} {p : Pay} (hp : l[m]? = some p) : p.seq ∉ (l.take m).map (·.seq) := by
 intro hm
 obtain ⟨hlt, hpe⟩ := List.getElem?_eq_some_iff.1 hp
 have h2 : l.map (·.seq) = (l.take m).map (·.seq) ++ (l.drop m).map (·.seq) := by rw [← List.map_append, List.take_append_drop]
 rw [h2, List.nodup_append] at hn
 refine hn.2.2 _ hm _ ?_ rfl
 rw [List.drop_eq_getElem_cons hlt, hpe]
 simp
theorem take_snoc {α : Type} {l : List α} {m : Nat} {p : α} (hp : l[m]? = some p) : l.take (m + 1) = l.take m ++ [p] := by
 obtain ⟨hlt, hpe⟩ := List.getElem?_eq_some_iff.1 hp
 rw [List.take_succ_eq_append_getElem hlt, hpe]
theorem map_snoc {l : List Pay} {m : Nat} {p : Pay} (hp : l[m]? = some p) : (l.take (m + 1)).map (·.seq) = (l.take m).map (·.seq) ++ [p.seq] := by rw [take_snoc hp]; simp
theorem nodup_snoc {l : List Int} {x : Int} (h : l.Nodup) (hx : x ∉ l) : (l ++ [x]).Nodup := by
 rw [List.nodup_append]
 refine ⟨h, by simp, ?_⟩
 intro a ha b hb
 simp at hb
 subst hb
 intro e
 exact hx (e ▸ ha)

def GoodPost (h : Hs) (l : List Pay) (w : World) (e : Ending) (w' : World) : Prop := e = .returned (.bool (goodB h l)) ∧ Below w.heap.size w w'

attribute [local go_sem] hc_has hc_cr hc_sent hc_lim hc_pays hc_next hc_size index_accs pc_0 pc_1 pc_2 pc_3 pc_4 pc_5
attribute [local go_sem low] hc_hasN hc_crN hc_sentN hc_limN
theorem zb : ∀ w : World, (zeroValue 4).run Try.prog w = .ok (.bool false) w := fun _ => by kernel_rfl

set_option maxHeartbeats 2000000 in
set_option maxRecDepth 100000 in
theorem good_any (h : Hs) (l : List Pay) (a : Option Addr) (cap : Nat) (w : World) (hp : PaysAt w a cap l) :
  Calls Try.prog 15 #[.agg (hc h (.slice a l.length cap))] w (GoodPost h l w) := by
 have hbox := hnew w (.cells (hc h (.slice a l.length cap)) 29)
 by_cases hlen : l.length ≤ 24
 ·cases hn : sm 0 h.next 1048576
  ·have fin : goodB h l = false := goodB_no fun g => by rw [g.next] at hn; cases hn
   have hd : decide ((24 : Int) < l.length) = false := by simp; omega
   go_enter Try.func15, Try.ntmps15
   replace fin := Lib.hid fin
   go_wp2_with (go_at_call 43; refine (small_any _ _ _ _).mono ?_; rintro e w' ⟨rfl, rfl⟩)
   go_ret
   exact ⟨by rw [fin.out]; rfl, (Below.refl _ _).alloc (Nat.le_refl _) _⟩
  ·have hd : decide ((24 : Int) < l.length) = false := by simp; omega
   have hmm := @run_makeMap Try.prog
   have hLen := Lib.hid hlen
   have hNext := Lib.hid hn
   go_enter Try.func15, Try.ntmps15
   go_wp2_with (first | go_skip | (go_at_call 43; refine (small_any _ _ _ _).mono ?_; rintro e w' ⟨rfl, rfl⟩) | (refine ld_mid 24 _ rfl rfl _ 0 rfl _ _ (accs h) _ _ hbox Try.underlying24 rfl info25 (hc_accs h _) ?_))
   clear hbox
   go_loopw [21] (fun i wr => ∃ k : Nat, k ≤ 4 ∧ i = .int .i64 k ∧ (∀ j : Nat, j < k → BankOk h j) ∧ wr.heap[w.heap.size]? = some (.cells (hc h (.slice a l.length cap)) 29 (0, 0)) ∧ Below w.heap.size w wr) (fun i _ => (4 - intOf i).toNat)
   case atStart => exact ⟨0, by omega, rfl, fun j hj => absurd hj (by omega), hnew _ _, (Below.refl _ _).alloc (Nat.le_refl _) _⟩
   case round =>
    obtain ⟨k, hk, rfl, hok, hg, hb⟩ := hrel
    have hsz := hb.size
    replace hok := Lib.hid hok
    by_cases h4 : k < 4
    ·have hcl := cells_at hg
     have hgl := hlt hg
     cases e1 : sm (-1099511627776) (h.has k) 1099511627776
     ·have fin : goodB h l = false := goodB_no fun g => by rw [(g.banks k (by omega) (by omega)).has] at e1; cases e1
      replace fin := Lib.hid fin
      go_wp2_with (go_at_call 43; refine (small_any _ _ _ _).mono ?_; rintro e w' ⟨rfl, rfl⟩)
      go_ret
      exact ⟨by rw [fin.out]; rfl, hb.alloc hsz _⟩
     cases e2 : sm 0 (h.cr k) 1000000
     ·have fin : goodB h l = false := goodB_no fun g => by rw [(g.banks k (by omega) (by omega)).cr] at e2; cases e2
      replace fin := Lib.hid fin
      go_wp2_with (go_at_call 43; refine (small_any _ _ _ _).mono ?_; rintro e w' ⟨rfl, rfl⟩)
      go_ret
      exact ⟨by rw [fin.out]; rfl, hb.alloc hsz _⟩
     go_wp2_with (go_at_call 43; refine (small_any _ _ _ _).mono ?_; rintro e w' ⟨rfl, rfl⟩)
     obtain ⟨wo, hwo⟩ : ∃ wo : World, wo = wr := ⟨_, rfl⟩
     clear hcl hgl
     go_loopw [35] (fun i wr => ∃ m : Nat, m ≤ 4 ∧ i = .int .i64 m ∧ (∀ j : Nat, j < m → CellOk h k j) ∧ wr.heap[w.heap.size]? = some (.cells (hc h (.slice a l.length cap)) 29 (0, 0)) ∧ Below w.heap.size w wr) (fun i _ => (4 - intOf i).toNat)
     case atStart => exact ⟨0, by omega, rfl, fun j hj => absurd hj (by omega), hold hg _, hb.alloc hsz _⟩
     case round =>
      clear hg hb hwo hsz
      obtain ⟨m, hm, rfl, hokc, hg, hb⟩ := hrel
      have hsz := hb.size
      replace hokc := Lib.hid hokc
      by_cases h5 : m < 4
      ·have hcl := cells_at hg
       cases e3 : sm 0 (h.sent k m) 1099511627776
       ·have fin : goodB h l = false := goodB_no fun g => by rw [((g.banks k (by omega) (by omega)).cells m (by omega) (by omega)).s] at e3; cases e3
        replace fin := Lib.hid fin
        go_wp2_with (go_at_call 43; refine (small_any _ _ _ _).mono ?_; rintro e w' ⟨rfl, rfl⟩)
        go_ret
        exact ⟨by rw [fin.out]; rfl, hb⟩
       cases e4 : sm (-1) (h.lim k m) 1000000
       ·have fin : goodB h l = false := goodB_no fun g => by rw [((g.banks k (by omega) (by omega)).cells m (by omega) (by omega)).l] at e4; cases e4
        replace fin := Lib.hid fin
        go_wp2_with (go_at_call 43; refine (small_any _ _ _ _).mono ?_; rintro e w' ⟨rfl, rfl⟩)
        go_ret
        exact ⟨by rw [fin.out]; rfl, hb⟩
       by_cases hkm : k = m
       ·subst hkm
        by_cases h0 : h.sent k k = 0
        ·have h0' : (h.sent k k != 0) = false := by simp [h0]
         have hnew : CellOk h k k := ⟨e3, e4, fun _ => h0⟩
         replace hnew := Lib.hid hnew
         replace h0 := Lib.hid h0
         go_wp2_with (go_at_call 43; refine (small_any _ _ _ _).mono ?_; rintro e w' ⟨rfl, rfl⟩)
         go_roundw
         case rel => exact ⟨k + 1, by omega, by go_num, fun j hj => if e : j = k then by rw [e]; exact hnew.out else hokc.out j (by omega), hg, hb⟩
         case measure => simp [intOf]; omega
        ·have h0' : (h.sent k k != 0) = true := by simp [h0]
         have fin : goodB h l = false := goodB_no fun g => h0 (((g.banks k (by omega) (by omega)).cells k (by omega) (by omega)).d rfl)
         replace h0 := Lib.hid h0
         replace fin := Lib.hid fin
         go_wp2_with (go_at_call 43; refine (small_any _ _ _ _).mono ?_; rintro e w' ⟨rfl, rfl⟩)
         go_ret
         exact ⟨by rw [fin.out]; rfl, hb⟩
       ·have hkm1 : ((k : Int) == (m : Int)) = false := by simp; omega
        have hkm2 : (k == m) = false := by simp; omega
        have hnew : CellOk h k m := ⟨e3, e4, fun e => absurd e (by omega)⟩
        replace hnew := Lib.hid hnew
        go_wp2_with (go_at_call 43; refine (small_any _ _ _ _).mono ?_; rintro e w' ⟨rfl, rfl⟩)
        go_roundw
        case rel => exact ⟨m + 1, by omega, by go_num, fun j hj => if e : j = m then by rw [e]; exact hnew.out else hokc.out j (by omega), hg, hb⟩
        case measure => simp [intOf]; omega
      ·have hd4 : decide ((m : Int) < 4) = false := by simp; omega
       have hbk : BankOk h k := ⟨e1, e2, fun i i0 i1 => by obtain ⟨j, rfl⟩ := Int.eq_ofNat_of_zero_le i0; exact hokc.out j (by omega)⟩
       replace hbk := Lib.hid hbk
       go_wp2
       go_roundw
       case rel => exact ⟨k + 1, by omega, by go_num, fun j hj => if e : j = k then by rw [e]; exact hbk.out else hok.out j (by omega), hg, hb⟩
       case measure => simp [intOf]; omega
    ·have hd4 : decide ((k : Int) < 4) = false := by simp; omega
     have hcl := cells_at hg
     have hbanks : ∀ i : Int, 0 ≤ i → i < 4 → BankOk h i := fun i i0 i1 => by obtain ⟨j, rfl⟩ := Int.eq_ofNat_of_zero_le i0; exact hok.out j (by omega)
     replace hbanks := Lib.hid hbanks
     have hgl := hlt hg
     go_wp2_with fail
     obtain ⟨wo, rfl⟩ : ∃ wo : World, wo = wr := ⟨_, rfl⟩
     go_loopw [76] (fun i wr => ∃ m : Nat, m ≤ l.length ∧ i = .int .i64 m ∧ (∀ (j : Nat) (p : Pay), j < m → l[j]? = some p → goodPay p = true ∧ p.seq < h.next) ∧ ((l.take m).map (·.seq)).Nodup ∧ SeenAt wr wo.heap.size ((l.take m).map (·.seq)) ∧ wr.heap[w.heap.size]? = some (.cells (hc h (.slice a l.length cap)) 29 (0, 0)) ∧ Below w.heap.size w wr) (fun i _ => (l.length - intOf i).toNat)
     case atStart =>
      exact ⟨0, by omega, rfl, fun j p hj => absurd hj (by omega), by simp, SeenAt.made _, hold hg _, hb.alloc hsz _⟩
     case round =>
      clear hg hb hsz hcl
      obtain ⟨m, hm, rfl, hoks, hnd, hseen, hg, hb⟩ := hrel
      have hsz := hb.size
      have hmb := hseen.lt
      replace hoks := Lib.hid hoks
      by_cases h5 : m < l.length
      ·obtain ⟨p, hpm⟩ : ∃ p, l[m]? = some p := ⟨l[m], List.getElem?_eq_getElem h5⟩
       obtain ⟨b, off, rfl, hbl, hpc⟩ := hp.row (by omega)
       have hpc' : ∀ j v, (pc p)[j]? = some v → wr.cell? ⟨b, off + m * 6 + j, none⟩ = some v := fun j v hv => by
        rw [Nat.add_assoc]
        exact (hb.cell (p := ⟨b, _, none⟩) hbl).trans (hpc m p hpm j v hv)
       replace hpc' := Lib.hid hpc'
       have hPm := Lib.hid hpm
       clear hpc hpm
       cases g1 : goodPay p
       ·have fin : goodB h l = false := goodB_no fun g => by rw [(g.pays p (List.mem_of_getElem? hPm.out)).1] at g1; cases g1
        replace fin := Lib.hid fin
        go_wp2_with (first | go_skip | (go_at_call 43; refine (small_any _ _ _ _).mono ?_; rintro e w' ⟨rfl, rfl⟩) | (refine ld_cells 70 _ rfl rfl _ _ rfl (pc p) _ Try.underlying70 rfl info36 hpc'.out ?_) | (refine st_new 70 _ _ rfl _ 70 _ rfl rfl rfl (pc p) rfl info36 rfl (pc_one p) ?_) | (refine ld_row 70 _ rfl rfl _ rfl _ (pc p) _ _ (hnew _ _) Try.underlying70 rfl info36 ?_) | (go_at_call 44; refine (goodPay_any p _).mono ?_; rintro e w1 ⟨rfl, hb1⟩; have hq1 := hkeep hb1 (hnew _ _); have hcq := cells_at hq1; have hg1 := hkeep hb1 (hold hg _); have hcl1 := cells_at hg1; have hs1 := (hseen.below ((Below.refl _ _).alloc (Nat.le_refl _) _)).below hb1; have hlook := hs1.look Try.underlying74 Try.underlying3 Try.underlying4 zb p.seq))
        go_ret
        exact ⟨by rw [fin.out]; rfl, bstep (hb.alloc hsz _) (by simp; omega) hb1⟩
       by_cases g2 : h.next ≤ p.seq
       ·have fin : goodB h l = false := goodB_no fun g => by have := (g.pays p (List.mem_of_getElem? hPm.out)).2; omega
        replace fin := Lib.hid fin
        go_wp2_with (first | go_skip | (go_at_call 43; refine (small_any _ _ _ _).mono ?_; rintro e w' ⟨rfl, rfl⟩) | (refine ld_cells 70 _ rfl rfl _ _ rfl (pc p) _ Try.underlying70 rfl info36 hpc'.out ?_) | (refine st_new 70 _ _ rfl _ 70 _ rfl rfl rfl (pc p) rfl info36 rfl (pc_one p) ?_) | (refine ld_row 70 _ rfl rfl _ rfl _ (pc p) _ _ (hnew _ _) Try.underlying70 rfl info36 ?_) | (go_at_call 44; refine (goodPay_any p _).mono ?_; rintro e w1 ⟨rfl, hb1⟩; have hq1 := hkeep hb1 (hnew _ _); have hcq := cells_at hq1; have hg1 := hkeep hb1 (hold hg _); have hcl1 := cells_at hg1; have hs1 := (hseen.below ((Below.refl _ _).alloc (Nat.le_refl _) _)).below hb1; have hlook := hs1.look Try.underlying74 Try.underlying3 Try.underlying4 zb p.seq))
        go_ret
        exact ⟨by rw [fin.out]; rfl, bstep (hb.alloc hsz _) (by simp; omega) hb1⟩
       have hd2 : decide (h.next ≤ p.seq) = false := by simpa using g2
       by_cases g3 : p.seq ∈ (l.take m).map (·.seq)
       ·have fin : goodB h l = false := goodB_no fun g => seq_fresh g.nodup hPm.out g3
        have hd3 : decide (p.seq ∈ (l.take m).map (·.seq)) = true := by simpa using g3
        replace fin := Lib.hid fin
        replace g3 := Lib.hid g3
        replace hd3 := Lib.hid hd3
        go_wp2_with (first | go_skip | (go_at_call 43; refine (small_any _ _ _ _).mono ?_; rintro e w' ⟨rfl, rfl⟩) | (refine ld_cells 70 _ rfl rfl _ _ rfl (pc p) _ Try.underlying70 rfl info36 hpc'.out ?_) | (refine st_new 70 _ _ rfl _ 70 _ rfl rfl rfl (pc p) rfl info36 rfl (pc_one p) ?_) | (refine ld_row 70 _ rfl rfl _ rfl _ (pc p) _ _ (hnew _ _) Try.underlying70 rfl info36 ?_) | (go_at_call 44; refine (goodPay_any p _).mono ?_; rintro e w1 ⟨rfl, hb1⟩; have hq1 := hkeep hb1 (hnew _ _); have hcq := cells_at hq1; have hg1 := hkeep hb1 (hold hg _); have hcl1 := cells_at hg1; have hs1 := (hseen.below ((Below.refl _ _).alloc (Nat.le_refl _) _)).below hb1; have hlook := hs1.look Try.underlying74 Try.underlying3 Try.underlying4 zb p.seq; rw [hd3.out] at hlook))
        go_ret
        exact ⟨by rw [fin.out]; rfl, bstep (hb.alloc hsz _) (by simp; omega) hb1⟩
       ·have hd3 : decide (p.seq ∈ (l.take m).map (·.seq)) = false := by simpa using g3
        replace g3 := Lib.hid g3
        replace hd3 := Lib.hid hd3
        replace hnd := Lib.hid hnd
        go_wp2_with (first | go_skip | (go_at_call 43; refine (small_any _ _ _ _).mono ?_; rintro e w' ⟨rfl, rfl⟩) | (refine ld_cells 70 _ rfl rfl _ _ rfl (pc p) _ Try.underlying70 rfl info36 hpc'.out ?_) | (refine st_new 70 _ _ rfl _ 70 _ rfl rfl rfl (pc p) rfl info36 rfl (pc_one p) ?_) | (refine ld_row 70 _ rfl rfl _ rfl _ (pc p) _ _ (hnew _ _) Try.underlying70 rfl info36 ?_) | (go_at_call 44; refine (goodPay_any p _).mono ?_; rintro e w1 ⟨rfl, hb1⟩; have hq1 := hkeep hb1 (hnew _ _); have hcq := cells_at hq1; have hg1 := hkeep hb1 (hold hg _); have hcl1 := cells_at hg1; have hs1 := (hseen.below ((Below.refl _ _).alloc (Nat.le_refl _) _)).below hb1; have hlook := hs1.look Try.underlying74 Try.underlying3 Try.underlying4 zb p.seq; rw [hd3.out] at hlook; obtain ⟨w2, hput, hs2, hgr2, hsz2⟩ := hs1.put Try.underlying74 Try.underlying3 p.seq g3.out; have hm1 := hs1.lt))
        go_roundw
        case rel =>
         refine ⟨m + 1, by omega, by go_num, ?_, ?_, ?_, ?_, ?_⟩
         ·intro j q hj hq
          by_cases e : j = m
          ·subst e
           rw [hPm.out] at hq
           cases hq
           exact ⟨g1, by omega⟩
          ·exact hoks.out j q (by omega) hq
         ·rw [map_snoc hPm.out]
          exact nodup_snoc hnd.out g3.out
         ·rw [map_snoc hPm.out]
          exact hs2
         ·exact (hgr2.block _ (hlt hg1) (by simp; omega)).trans hg1
         ·exact (bstep (hb.alloc hsz _) (by simp; omega) hb1).grown hgr2 (by have := hb1.size; simp at this; omega) (fun k hk => by cases hk; omega)
        case measure => simp [intOf]; omega
      ·have hd5 : decide ((m : Int) < l.length) = false := by simp; omega
       have hml : m = l.length := by omega
       have fin : goodB h l = true := goodB_yes ⟨hLen.out, hNext.out, hbanks.out, fun p hpm => by
         obtain ⟨j, hj⟩ := List.getElem?_of_mem hpm
         exact hoks.out j p (by have := (List.getElem?_eq_some_iff.1 hj).1; omega) hj, by rw [hml, List.take_length] at hnd; exact hnd⟩
       replace fin := Lib.hid fin
       replace hml := Lib.hid hml
       go_wp2
       go_ret
       exact ⟨by rw [fin.out]; rfl, hb⟩
 ·have fin : goodB h l = false := goodB_no fun g => hlen g.len
  have hd : decide ((24 : Int) < l.length) = true := by simp; omega
  have hd' : (24 : Int) < l.length := by omega
  go_enter Try.func15, Try.ntmps15
  replace fin := Lib.hid fin
  go_wp2_with (go_at_call 43; refine (small_any _ _ _ _).mono ?_; rintro e w' ⟨rfl, rfl⟩)
  go_ret
  exact ⟨by rw [fin.out]; rfl, (Below.refl _ _).alloc (Nat.le_refl _) _⟩
end Go.Proofs.Ytggfdkkhlokmlab


