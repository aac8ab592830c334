/- How a house, its payments, a list of ints and a set of ints lie in memory; small laws on worlds. -/
import Derived.WalkKit
import Derived.WalkSmall
import Derived.Lib.Hide
import Derived.Deep.WholeRow
import Derived.Test.YtggfdkkhlokmlabChecked
import Derived.Deep.QuietTactic
import Derived.BigQuiet
import Derived.WalkSpells
namespace Go.Proofs.Ytggfdkkhlokmlab
open Go.RowKit

/-! ### numbers -/
/-- Is n from lo to hi? -/
def sm (lo n hi : Int) : Bool := decide (lo ≤ n ∧ n ≤ hi)
theorem sm_yes {lo n hi : Int} (h : lo ≤ n ∧ n ≤ hi) : sm lo n hi = true := decide_eq_true h
theorem sm_true {lo n hi : Int} (h : sm lo n hi = true) : lo ≤ n ∧ n ≤ hi := of_decide_eq_true h
theorem sm_false {lo n hi : Int} (h : sm lo n hi = false) : ¬ (lo ≤ n ∧ n ≤ hi) := of_decide_eq_false h
theorem four {i : Int} (h : 0 ≤ i ∧ i < 4) : i = 0 ∨ i = 1 ∨ i = 2 ∨ i = 3 := by omega

/-! ### worlds -/
theorem hkeep {w w1 : World} {b : Nat} {o : Obj} (hb : Below w.heap.size w w1) (h : w.heap[b]? = some o) : w1.heap[b]? = some o :=
 (hb.block b (Array.getElem?_eq_some_iff.1 h).1).trans h
theorem hlt {w : World} {b : Nat} {o : Obj} (h : w.heap[b]? = some o) : b < w.heap.size := (Array.getElem?_eq_some_iff.1 h).1
theorem hnew (w : World) (o : Obj) : (w.alloc o).heap[w.heap.size]? = some o := heap_alloc_new w o
theorem hold {w : World} {b : Nat} {o : Obj} (h : w.heap[b]? = some o) (o' : Obj) : (w.alloc o').heap[b]? = some o := by
 rw [Below.heap_alloc w o' b (hlt h)]; exact h
theorem cells_at {w : World} {b : Nat} {cs : Array Value} {t : TypeId} (h : w.heap[b]? = some (.cells cs t (0, 0))) : ∀ o : Nat, w.cell? ⟨b, o, none⟩ = cs[o]? := fun o => cell_of_row w b o cs t (0, 0) h
section
variable {P : Program} {ops : Array Oper} {rest : List Oper} {o : Oper} {a : Act} {w : World} {Q : Exit → Act → World → Prop}
/-- A whole struct or array, read. -/
theorem ld_row (ty : TypeId) (x : Operand) (ho : o.op = .load ty x) (hw : Region.wanted o (yielded ops a.tmps) = true)
  (g : Nat) (hx : a.eval x = .pointer (some ⟨g, 0, none⟩)) (t : TypeId) (cs : Array Value) (fr : Nat × Nat) (d : TypeDesc) (hg : w.heap[g]? = some (.cells cs t fr))
  (hu : P.underlying ty = some d) (hd : (match d with | .struct _ | .array _ _ => true | _ => false) = true) (hi : (P.info? ty).map (·.size) = some cs.size)
  (h : wpList P ops Q rest (a.put o.dst (.agg cs)) w) : wpList P ops Q (o :: rest) a w :=
 BigFrame.wpList_want hw fun _ hK => wp_load_row ty x ho g hx t cs fr d hg hu hd hi (hK _ _ h)

theorem run_load_mid (w : World) (g off : Nat) (t ty : TypeId) (cs part : Array Value) (fr : Nat × Nat) (d : TypeDesc) (hg : w.heap[g]? = some (.cells cs t fr))
  (hu : P.underlying ty = some d) (hd : (match d with | .struct _ | .array _ _ => true | _ => false) = true) (hi : (P.info? ty).map (·.size) = some part.size) (hp : ∀ j v, part[j]? = some v → cs[off + j]? = some v) :
  (loadVar ty ⟨g, off, none⟩).run P w = .ok (.agg part) w := by
 have hl : (loadCells ⟨g, off, none⟩ part.toList.length).run P w = .ok part.toList.toArray w :=
  run_loadCells_list (P := P) w ⟨g, off, none⟩ part.toList (fun j v hv => by
   have hadd : (⟨g, off, none⟩ : Addr).add j = ⟨g, off + j, none⟩ := by unfold Addr.add; split <;> simp_all
   rw [hadd, cell_of_row w g (off + j) cs t fr hg]
   exact hp j v (by simpa using hv))
 cases hq : P.info? ty with
 | none => simp [hq] at hi
 | some i =>
  have hs : i.size = part.size := by simpa [hq] using hi
  have hagg : (isAgg ty).run P w = .ok true w := by
   unfold isAgg
   rw [Sem.run_bind, run_underlying hu w]
   cases d <;> simp_all
  simp only [Array.length_toList, Array.toArray_toList] at hl
  simp [loadVar, Sem.run_bind, hagg, sizeOf, typeInfo, hq, hs, hl]

/-- A struct or an array inside a block, read. -/
theorem ld_mid (ty : TypeId) (x : Operand) (ho : o.op = .load ty x) (hw : Region.wanted o (yielded ops a.tmps) = true)
  (g off : Nat) (hx : a.eval x = .pointer (some ⟨g, off, none⟩)) (t : TypeId) (cs part : Array Value) (fr : Nat × Nat) (d : TypeDesc) (hg : w.heap[g]? = some (.cells cs t fr))
  (hu : P.underlying ty = some d) (hd : (match d with | .struct _ | .array _ _ => true | _ => false) = true) (hi : (P.info? ty).map (·.size) = some part.size) (hp : ∀ j v, part[j]? = some v → cs[off + j]? = some v)
  (h : wpList P ops Q rest (a.put o.dst (.agg part)) w) : wpList P ops Q (o :: rest) a w :=
 BigFrame.wpList_want hw fun K hK => by
  unfold Oper.wp execOp
  simp only [ho, hx, Instr.loadAt, Instr.sureAddr, Sem.run_bind, Sem.run_pure, Result.andThen_ok, run_load_mid w g off t ty cs part fr d hg hu hd hi hp]
  exact hK _ _ h

/-- A struct or an array in memory, told cell by cell, read. -/
theorem ld_cells (ty : TypeId) (x : Operand) (ho : o.op = .load ty x) (hw : Region.wanted o (yielded ops a.tmps) = true)
  (g off : Nat) (hx : a.eval x = .pointer (some ⟨g, off, none⟩)) (part : Array Value) (d : TypeDesc)
  (hu : P.underlying ty = some d) (hd : (match d with | .struct _ | .array _ _ => true | _ => false) = true) (hi : (P.info? ty).map (·.size) = some part.size) (hp : ∀ j v, part[j]? = some v → w.cell? ⟨g, off + j, none⟩ = some v)
  (h : wpList P ops Q rest (a.put o.dst (.agg part)) w) : wpList P ops Q (o :: rest) a w :=
 BigFrame.wpList_want hw fun K hK => by
  have hr : (loadVar ty ⟨g, off, none⟩).run P w = .ok (.agg part) w := by
   have hl : (loadCells ⟨g, off, none⟩ part.toList.length).run P w = .ok part.toList.toArray w :=
    run_loadCells_list (P := P) w ⟨g, off, none⟩ part.toList (fun j v hv => by
     have hadd : (⟨g, off, none⟩ : Addr).add j = ⟨g, off + j, none⟩ := by unfold Addr.add; split <;> simp_all
     rw [hadd]
     exact hp j v (by simpa using hv))
   cases hq : P.info? ty with
   | none => simp [hq] at hi
   | some i =>
    have hs : i.size = part.size := by simpa [hq] using hi
    have hagg : (isAgg ty).run P w = .ok true w := by
     unfold isAgg
     rw [Sem.run_bind, run_underlying hu w]
     cases d <;> simp_all
    simp only [Array.length_toList, Array.toArray_toList] at hl
    simp [loadVar, Sem.run_bind, hagg, sizeOf, typeInfo, hq, hs, hl]
  unfold Oper.wp execOp
  simp only [ho, hx, Instr.loadAt, Instr.sureAddr, Sem.run_bind, Sem.run_pure, Result.andThen_ok, hr]
  exact hK _ _ h

/-- A struct or an array written into the block that was made last. -/
theorem st_new {W : World} (ty : TypeId) (x y : Operand) (ho : o.op = .store ty x y) (w : World) (t : TypeId) (old : Array Value) (hW : W = w.alloc (.cells old t)) (hw : Region.wanted o (yielded ops a.tmps) = true) (hx : a.eval x = .pointer (some ⟨w.heap.size, 0, none⟩))
  (cells : Array Value) (hy : a.eval y = .agg cells) (hi : (P.info? ty).map (·.size) = some cells.size)
  (hs : old.size = cells.size) (h1 : cells.all (·.oneCell') = true)
  (h : wpList P ops Q rest (a.put o.dst undef) (w.alloc (.cells cells t))) : wpList P ops Q (o :: rest) a W :=
 BigFrame.wpList_want hw fun K hK => by
  subst hW
  unfold Oper.wp execOp
  have hr := run_storeVar_row (P := P) (w.alloc (.cells old t)) w.heap.size t ty old cells (hnew _ _) hi hs h1
  have he : (w.alloc (.cells old t)).setRow w.heap.size cells = w.alloc (.cells cells t) := World.setRow_alloc_new w old cells t
  rw [he] at hr
  simp only [ho, hx, hy, Instr.storeAt, Instr.sureAddr, Sem.run_bind, Sem.run_pure, Result.andThen_ok, hr]
  exact hK _ _ h

/-- A struct or an array that fills a block of the call's own, written: the world behind it is told by what its blocks hold. -/
theorem st_row (ty : TypeId) (x y : Operand) (ho : o.op = .store ty x y) (hw : Region.wanted o (yielded ops a.tmps) = true) (g : Nat) (hx : a.eval x = .pointer (some ⟨g, 0, none⟩))
  (cells : Array Value) (hy : a.eval y = .agg cells) (t : TypeId) (old : Array Value) (hg : w.heap[g]? = some (.cells old t (0, 0))) (hi : (P.info? ty).map (·.size) = some cells.size)
  (hs : old.size = cells.size) (h1 : cells.all (·.oneCell') = true)
  (h : ∀ w' : World, w'.heap[g]? = some (.cells cells t (0, 0)) → w.grownBy w' (some g) → w'.heap.size = w.heap.size → wpList P ops Q rest (a.put o.dst undef) w') : wpList P ops Q (o :: rest) a w :=
 BigFrame.wpList_want hw fun K hK => by
  unfold Oper.wp execOp
  have hr := run_storeVar_row (P := P) w g t ty old cells hg hi hs h1
  simp only [ho, hx, hy, Instr.storeAt, Instr.sureAddr, Sem.run_bind, Sem.run_pure, Result.andThen_ok, hr]
  refine hK _ _ (h _ (setRow_heap w g old cells t _ hg) ⟨rfl, rfl, rfl, by simp, fun k _ hk => setRow_other w g k cells (fun e => hk (by rw [e]))⟩ (by simp))
end

/-! ### a house -/
/-- A house but for its payments. -/
structure Hs where
 has : Int → Int
 cr : Int → Int
 sent : Int → Int → Int
 lim : Int → Int → Int
 next : Int
/-- The cells of a house whose payments lie in the slice s. -/
def hc (h : Hs) (s : Value) : Array Value :=
 #[.int .i64 (h.has 0), .int .i64 (h.cr 0), .int .i64 (h.has 1), .int .i64 (h.cr 1), .int .i64 (h.has 2), .int .i64 (h.cr 2), .int .i64 (h.has 3), .int .i64 (h.cr 3),
  .int .i64 (h.sent 0 0), .int .i64 (h.sent 0 1), .int .i64 (h.sent 0 2), .int .i64 (h.sent 0 3), .int .i64 (h.sent 1 0), .int .i64 (h.sent 1 1), .int .i64 (h.sent 1 2), .int .i64 (h.sent 1 3),
  .int .i64 (h.sent 2 0), .int .i64 (h.sent 2 1), .int .i64 (h.sent 2 2), .int .i64 (h.sent 2 3), .int .i64 (h.sent 3 0), .int .i64 (h.sent 3 1), .int .i64 (h.sent 3 2), .int .i64 (h.sent 3 3),
  .int .i64 (h.lim 0 0), .int .i64 (h.lim 0 1), .int .i64 (h.lim 0 2), .int .i64 (h.lim 0 3), .int .i64 (h.lim 1 0), .int .i64 (h.lim 1 1), .int .i64 (h.lim 1 2), .int .i64 (h.lim 1 3),
  .int .i64 (h.lim 2 0), .int .i64 (h.lim 2 1), .int .i64 (h.lim 2 2), .int .i64 (h.lim 2 3), .int .i64 (h.lim 3 0), .int .i64 (h.lim 3 1), .int .i64 (h.lim 3 2), .int .i64 (h.lim 3 3),
  s, .int .i64 h.next]
def accs (h : Hs) : Array Value := #[.int .i64 (h.has 0), .int .i64 (h.cr 0), .int .i64 (h.has 1), .int .i64 (h.cr 1), .int .i64 (h.has 2), .int .i64 (h.cr 2), .int .i64 (h.has 3), .int .i64 (h.cr 3)]
def sents (h : Hs) : Array Value := #[.int .i64 (h.sent 0 0), .int .i64 (h.sent 0 1), .int .i64 (h.sent 0 2), .int .i64 (h.sent 0 3), .int .i64 (h.sent 1 0), .int .i64 (h.sent 1 1), .int .i64 (h.sent 1 2), .int .i64 (h.sent 1 3),
  .int .i64 (h.sent 2 0), .int .i64 (h.sent 2 1), .int .i64 (h.sent 2 2), .int .i64 (h.sent 2 3), .int .i64 (h.sent 3 0), .int .i64 (h.sent 3 1), .int .i64 (h.sent 3 2), .int .i64 (h.sent 3 3)]
def lims (h : Hs) : Array Value := #[.int .i64 (h.lim 0 0), .int .i64 (h.lim 0 1), .int .i64 (h.lim 0 2), .int .i64 (h.lim 0 3), .int .i64 (h.lim 1 0), .int .i64 (h.lim 1 1), .int .i64 (h.lim 1 2), .int .i64 (h.lim 1 3),
  .int .i64 (h.lim 2 0), .int .i64 (h.lim 2 1), .int .i64 (h.lim 2 2), .int .i64 (h.lim 2 3), .int .i64 (h.lim 3 0), .int .i64 (h.lim 3 1), .int .i64 (h.lim 3 2), .int .i64 (h.lim 3 3)]
theorem hc_size (h : Hs) (s : Value) : (hc h s).size = 42 := rfl
theorem hc_has (h : Hs) (s : Value) (i : Int) (h0 : 0 ≤ i) (h1 : i < 4) : (hc h s)[i.toNat * 2]? = some (.int .i64 (h.has i)) := by
 rcases four ⟨h0, h1⟩ with rfl | rfl | rfl | rfl <;> rfl
theorem hc_cr (h : Hs) (s : Value) (i : Int) (h0 : 0 ≤ i) (h1 : i < 4) : (hc h s)[i.toNat * 2 + 1]? = some (.int .i64 (h.cr i)) := by
 rcases four ⟨h0, h1⟩ with rfl | rfl | rfl | rfl <;> rfl
theorem hc_sent (h : Hs) (s : Value) (i k : Int) (h0 : 0 ≤ i) (h1 : i < 4) (k0 : 0 ≤ k) (k1 : k < 4) : (hc h s)[8 + i.toNat * 4 + k.toNat]? = some (.int .i64 (h.sent i k)) := by
 rcases four ⟨h0, h1⟩ with rfl | rfl | rfl | rfl <;> rcases four ⟨k0, k1⟩ with rfl | rfl | rfl | rfl <;> rfl
theorem hc_lim (h : Hs) (s : Value) (i k : Int) (h0 : 0 ≤ i) (h1 : i < 4) (k0 : 0 ≤ k) (k1 : k < 4) : (hc h s)[24 + i.toNat * 4 + k.toNat]? = some (.int .i64 (h.lim i k)) := by
 rcases four ⟨h0, h1⟩ with rfl | rfl | rfl | rfl <;> rcases four ⟨k0, k1⟩ with rfl | rfl | rfl | rfl <;> rfl
theorem hc_hasN (h : Hs) (s : Value) (i : Nat) (h1 : i < 4) : (hc h s)[i * 2]? = some (.int .i64 (h.has i)) := hc_has h s i (by omega) (by omega)
theorem hc_crN (h : Hs) (s : Value) (i : Nat) (h1 : i < 4) : (hc h s)[i * 2 + 1]? = some (.int .i64 (h.cr i)) := hc_cr h s i (by omega) (by omega)
theorem hc_sentN (h : Hs) (s : Value) (i k : Nat) (h1 : i < 4) (k1 : k < 4) : (hc h s)[8 + i * 4 + k]? = some (.int .i64 (h.sent i k)) := hc_sent h s i k (by omega) (by omega) (by omega) (by omega)
theorem hc_limN (h : Hs) (s : Value) (i k : Nat) (h1 : i < 4) (k1 : k < 4) : (hc h s)[24 + i * 4 + k]? = some (.int .i64 (h.lim i k)) := hc_lim h s i k (by omega) (by omega) (by omega) (by omega)
theorem hc_pays (h : Hs) (s : Value) : (hc h s)[40]? = some s := rfl
theorem hc_next (h : Hs) (s : Value) : (hc h s)[41]? = some (.int .i64 h.next) := rfl
theorem hc_accs (h : Hs) (s : Value) : ∀ j v, (accs h)[j]? = some v → (hc h s)[0 + j]? = some v := by
 intro j v hv
 have hj : j < 8 := (Array.getElem?_eq_some_iff.1 hv).1
 rcases j with _ | _ | _ | _ | _ | _ | _ | _ | j <;> first | exact hv | omega
theorem hc_sents (h : Hs) (s : Value) : ∀ j v, (sents h)[j]? = some v → (hc h s)[8 + j]? = some v := by
 intro j v hv
 have hj : j < 16 := (Array.getElem?_eq_some_iff.1 hv).1
 rcases j with _ | _ | _ | _ | _ | _ | _ | _ | _ | _ | _ | _ | _ | _ | _ | _ | j <;> first | exact hv | omega
theorem hc_lims (h : Hs) (s : Value) : ∀ j v, (lims h)[j]? = some v → (hc h s)[24 + j]? = some v := by
 intro j v hv
 have hj : j < 16 := (Array.getElem?_eq_some_iff.1 hv).1
 rcases j with _ | _ | _ | _ | _ | _ | _ | _ | _ | _ | _ | _ | _ | _ | _ | _ | j <;> first | exact hv | omega
theorem hc_one (h : Hs) (s : Value) (hs : s.oneCell' = true) : (hc h s).all (·.oneCell') = true := by
 have hi : ∀ k n, (Value.int k n).oneCell' = true := fun _ _ => rfl
 simp [hc, hs, hi]

/-! ### one payment -/
structure Pay where
 frm : Int
 to : Int
 amt : Int
 cls : Int
 st : Int
 seq : Int
deriving DecidableEq, Inhabited
def pc (p : Pay) : Array Value := #[.int .i64 p.frm, .int .i64 p.to, .int .i64 p.amt, .int .i64 p.cls, .int .i64 p.st, .int .i64 p.seq]
theorem pc_size (p : Pay) : (pc p).size = 6 := rfl
theorem pc_0 (p : Pay) : (pc p)[0]? = some (.int .i64 p.frm) := rfl
theorem pc_1 (p : Pay) : (pc p)[1]? = some (.int .i64 p.to) := rfl
theorem pc_2 (p : Pay) : (pc p)[2]? = some (.int .i64 p.amt) := rfl
theorem pc_3 (p : Pay) : (pc p)[3]? = some (.int .i64 p.cls) := rfl
theorem pc_4 (p : Pay) : (pc p)[4]? = some (.int .i64 p.st) := rfl
theorem pc_5 (p : Pay) : (pc p)[5]? = some (.int .i64 p.seq) := rfl
theorem pc_one (p : Pay) : (pc p).all (·.oneCell') = true := by simp [pc, Value.oneCell']

/-- The slice s lies in memory as the payments l. -/
structure PaysAt (w : World) (a : Option Addr) (cap : Nat) (l : List Pay) : Prop where
 le : l.length ≤ cap
 capm : cap ≤ maxLen
 room : l.length * 48 ≤ 140737488355328
 nil0 : a = none → cap = 0
 row : 0 < l.length → ∃ b off, a = some ⟨b, off, none⟩ ∧ b < w.heap.size ∧ ∀ i p, l[i]? = some p → ∀ j v, (pc p)[j]? = some v → w.cell? ⟨b, off + (i * 6 + j), none⟩ = some v
/-- The slice s lies in memory as the ints l. -/
structure IntsAt (w : World) (a : Option Addr) (cap : Nat) (l : List Int) : Prop where
 le : l.length ≤ cap
 capm : cap ≤ maxLen
 room : l.length * 8 ≤ 140737488355328
 nil0 : a = none → cap = 0
 row : 0 < l.length → ∃ b off, a = some ⟨b, off, none⟩ ∧ b < w.heap.size ∧ ∀ i n, l[i]? = some n → w.cell? ⟨b, off + i, none⟩ = some (.int .i64 n)
theorem PaysAt.below {w w' : World} {a : Option Addr} {cap : Nat} {l : List Pay} (h : PaysAt w a cap l) (hb : Below w.heap.size w w') : PaysAt w' a cap l :=
 ⟨h.le, h.capm, h.room, h.nil0, fun hl => let ⟨b, off, ha, hbl, hc⟩ := h.row hl; ⟨b, off, ha, Nat.lt_of_lt_of_le hbl hb.size, fun i p hp j v hv => (hb.cell (p := ⟨b, _, none⟩) hbl).trans (hc i p hp j v hv)⟩⟩
theorem IntsAt.below {w w' : World} {a : Option Addr} {cap : Nat} {l : List Int} (h : IntsAt w a cap l) (hb : Below w.heap.size w w') : IntsAt w' a cap l :=
 ⟨h.le, h.capm, h.room, h.nil0, fun hl => let ⟨b, off, ha, hbl, hc⟩ := h.row hl; ⟨b, off, ha, Nat.lt_of_lt_of_le hbl hb.size, fun i n hn => (hb.cell (p := ⟨b, _, none⟩) hbl).trans (hc i n hn)⟩⟩
theorem PaysAt.alloc {w : World} {a : Option Addr} {cap : Nat} {l : List Pay} (h : PaysAt w a cap l) (o : Obj) : PaysAt (w.alloc o) a cap l := h.below ((Below.refl _ _).alloc (Nat.le_refl _) _)
theorem IntsAt.alloc {w : World} {a : Option Addr} {cap : Nat} {l : List Int} (h : IntsAt w a cap l) (o : Obj) : IntsAt (w.alloc o) a cap l := h.below ((Below.refl _ _).alloc (Nat.le_refl _) _)

/-- The cells of payments, one behind the other. -/
def flat (l : List Pay) : List Value := l.flatMap fun p => (pc p).toList
theorem flat_length : ∀ l : List Pay, (flat l).length = l.length * 6
 | [] => rfl
 | p :: l => by
  have := flat_length l
  simp only [flat, List.flatMap_cons, List.length_append, List.length_cons] at this ⊢
  rw [this]
  have h6 : (pc p).toList.length = 6 := rfl
  omega
theorem flat_get : ∀ (l : List Pay) (i : Nat) (p : Pay), l[i]? = some p → ∀ (j : Nat) (v : Value), (pc p)[j]? = some v → (flat l)[i * 6 + j]? = some v
 | [], i, p, h, _, _, _ => by simp at h
 | q :: l, 0, p, h, j, v, hv => by
  simp at h
  subst h
  have hj : j < 6 := (Array.getElem?_eq_some_iff.1 hv).1
  simp only [flat, List.flatMap_cons, Nat.zero_mul, Nat.zero_add]
  rw [List.getElem?_append_left (by exact hj)]
  simpa using hv
 | q :: l, i + 1, p, h, j, v, hv => by
  have ih := flat_get l i p (by simpa using h) j v hv
  simp only [flat, List.flatMap_cons]
  rw [List.getElem?_append_right (by show 6 ≤ _; omega)]
  have e : (i + 1) * 6 + j - (pc q).toList.length = i * 6 + j := by show (i + 1) * 6 + j - 6 = _; omega
  rw [e]
  exact ih
theorem flat_one (l : List Pay) : ∀ u ∈ flat l, u.oneCell' = true := by
 intro u hu
 obtain ⟨p, _, hp⟩ := List.mem_flatMap.1 hu
 simp only [pc, List.mem_cons, List.not_mem_nil, or_false] at hp
 rcases hp with rfl | rfl | rfl | rfl | rfl | rfl <;> rfl
theorem PaysAt.cells {w : World} {b off cap : Nat} {l : List Pay} (h : PaysAt w (some ⟨b, off, none⟩) cap l) : ∀ j u, (flat l)[j]? = some u → w.cell? ((⟨b, off, none⟩ : Addr).add j) = some u := by
 intro j u hu
 have hj : j < (flat l).length := (List.getElem?_eq_some_iff.1 hu).1
 rw [flat_length] at hj
 have h0 : 0 < l.length := by omega
 obtain ⟨b', off', e, _, hc⟩ := h.row h0
 cases e
 have hadd : (⟨b, off, none⟩ : Addr).add j = ⟨b, off + j, none⟩ := by unfold Addr.add; split <;> simp_all
 have hi : j / 6 < l.length := by omega
 have hjj : j = j / 6 * 6 + j % 6 := by omega
 have hr : j % 6 < 6 := by omega
 have hv : (pc l[j / 6])[j % 6]? = some ((pc l[j / 6])[j % 6]'hr) := Array.getElem?_eq_getElem hr
 have := flat_get l (j / 6) _ (List.getElem?_eq_getElem hi) (j % 6) _ hv
 rw [← hjj, hu] at this
 cases this
 rw [hadd]
 have hc' := hc (j / 6) _ (List.getElem?_eq_getElem hi) (j % 6) _ hv
 rw [← hjj] at hc'
 exact hc'
/-- Payments in a row of the call's own. -/
def OwnPays (w : World) (base : Nat) (v : Value) (l : List Pay) : Prop := w.ownsRow base 70 6 v l.length (flat l) ∧ l.length * 48 ≤ 140737488355328
theorem OwnPays.at_ {w : World} {base : Nat} {v : Value} {l : List Pay} (h : OwnPays w base v l) : ∃ a cap, v = .slice a l.length cap ∧ PaysAt w a cap l ∧ (∀ b off s, a = some ⟨b, off, s⟩ → base ≤ b) := by
 obtain ⟨⟨hlen, hv⟩, hroom⟩ := h
 rcases hv with ⟨rfl, h0⟩ | ⟨g, cap, cur, rfl, hb, hg, hn, hc, hsz, htake⟩
 ·refine ⟨none, 0, by rw [h0], ⟨by omega, by simp [maxLen], hroom, fun _ => rfl, fun h => absurd h (by omega)⟩, by simp⟩
 ·refine ⟨some ⟨g, 0, none⟩, cap, rfl, ⟨hn, hc, hroom, by simp, fun _ => ⟨g, 0, rfl, hlt hg, fun i p hp j v hv => ?_⟩⟩, fun b off s e => by cases e; exact hb⟩
  have h1 := flat_get l i p hp j v hv
  rw [← htake] at h1
  have hlt : i * 6 + j < l.length * 6 := by
   have hi := (List.getElem?_eq_some_iff.1 hp).1
   have hj : j < 6 := (Array.getElem?_eq_some_iff.1 hv).1
   omega
  rw [List.getElem?_take_of_lt hlt] at h1
  rw [Nat.zero_add, cells_at hg]
  simpa using h1
theorem OwnPays.below {w w' : World} {base : Nat} {v : Value} {l : List Pay} (h : OwnPays w base v l) (hb : Below w.heap.size w w') : OwnPays w' base v l := by
 obtain ⟨⟨hlen, hv⟩, hroom⟩ := h
 refine ⟨⟨hlen, ?_⟩, hroom⟩
 rcases hv with h0 | ⟨g, cap, cur, rfl, hb', hg, hrest⟩
 ·exact .inl h0
 ·exact .inr ⟨g, cap, cur, rfl, hb', hkeep hb hg, hrest⟩
theorem OwnPays.one {w : World} {base : Nat} {v : Value} {l : List Pay} (h : OwnPays w base v l) : v.oneCell' = true := by
 obtain ⟨a, cap, rfl, _⟩ := h.at_
 rfl
theorem OwnPays.mono {w : World} {base base' : Nat} {v : Value} {l : List Pay} (h : OwnPays w base v l) (hb : base' ≤ base) : OwnPays w base' v l := by
 obtain ⟨⟨hlen, hv⟩, hroom⟩ := h
 refine ⟨⟨hlen, ?_⟩, hroom⟩
 rcases hv with h0 | ⟨g, cap, cur, rfl, hb', hrest⟩
 ·exact .inl h0
 ·exact .inr ⟨g, cap, cur, rfl, by omega, hrest⟩

/-! ### a set of ints (a map[int]bool that the call made) -/
/-- Block b is a map that holds true at each of xs, and nothing else. -/
def SeenAt (w : World) (b : Nat) (xs : List Int) : Prop :=
 ∃ es clock, w.heap[b]? = some (.map es clock) ∧ es.toList.map (fun e => (e.key, e.val)) = xs.map fun x => (Value.int .i64 x, Value.bool true)
theorem findNow_none (x : Int) : ∀ (es : List MapEntry) (xs : List Int) (i : Nat), es.map (fun e => (e.key, e.val)) = xs.map (fun x => (Value.int .i64 x, Value.bool true)) → x ∉ xs → Instr.findNow (.int .i64) (.int .i64 x) es i = some none
 | [], _, _, _, _ => rfl
 | e :: es, [], _, h, _ => by simp at h
 | e :: es, y :: ys, i, h, hx => by
  simp only [List.map_cons, List.cons.injEq, Prod.mk.injEq] at h
  have hne : (x == y) = false := by simp only [beq_eq_false_iff_ne]; intro e; exact hx (by simp [e])
  simp only [Instr.findNow, h.1.1, Instr.sameNow, ↓reduceIte, hne]
  exact findNow_none x es ys (i + 1) h.2 (fun hm => hx (by simp [hm]))
theorem findNow_some (x : Int) : ∀ (es : List MapEntry) (xs : List Int) (i : Nat), es.map (fun e => (e.key, e.val)) = xs.map (fun x => (Value.int .i64 x, Value.bool true)) → x ∈ xs → ∃ j, Instr.findNow (.int .i64) (.int .i64 x) es i = some (some (j, .bool true))
 | [], [], _, _, hx => by simp at hx
 | [], _ :: _, _, h, _ => by simp at h
 | e :: es, [], _, h, _ => by simp at h
 | e :: es, y :: ys, i, h, hx => by
  simp only [List.map_cons, List.cons.injEq, Prod.mk.injEq] at h
  by_cases hxy : x = y
  ·subst hxy
   exact ⟨i, by simp [Instr.findNow, h.1.1, Instr.sameNow, h.1.2]⟩
  ·have hne : (x == y) = false := by simpa using hxy
   simp only [Instr.findNow, h.1.1, Instr.sameNow, ↓reduceIte, hne]
   exact findNow_some x es ys (i + 1) h.2 (by simpa [hxy] using hx)

section
variable {P : Program} {w : World} {b : Nat} {xs : List Int}
theorem SeenAt.below {w' : World} (h : SeenAt w b xs) (hb : Below w.heap.size w w') : SeenAt w' b xs := by
 obtain ⟨es, clock, hh, he⟩ := h
 exact ⟨es, clock, hkeep hb hh, he⟩
theorem SeenAt.keep {w' : World} (h : SeenAt w b xs) (hb : w'.heap[b]? = w.heap[b]?) : SeenAt w' b xs := by
 obtain ⟨es, clock, hh, he⟩ := h
 exact ⟨es, clock, hb.trans hh, he⟩
theorem SeenAt.lt (h : SeenAt w b xs) : b < w.heap.size := by
 obtain ⟨es, clock, hh, he⟩ := h
 exact hlt hh
theorem SeenAt.made (w : World) : SeenAt (w.alloc (.map #[] 0)) w.heap.size [] := ⟨#[], 0, hnew _ _, rfl⟩
theorem checkKey_int {k : TypeId} (hk : P.underlying k = some (.int .i64)) (e : Bool) (n : Nat) (x : Int) : (Instr.checkKey e (n + 1) k (.int .i64 x)).run P w = .ok () w := by
 simp [Instr.checkKey, Sem.run_bind, run_underlying hk]
theorem SeenAt.look {t k e : TypeId} (h : SeenAt w b xs) (ht : P.underlying t = some (.map k e)) (hk : P.underlying k = some (.int .i64)) (_he : P.underlying e = some .bool) (hz : ∀ w, (zeroValue e).run P w = .ok (.bool false) w) (x : Int) :
  (Instr.lookup t (.map (some b)) (.int .i64 x) false).run P w = .ok (.bool (decide (x ∈ xs))) w := by
 obtain ⟨es, clock, hh, hm⟩ := h
 have hck : ∀ e' : Bool, (Instr.checkKey e' 10000 k (.int .i64 x)).run P w = .ok () w := fun e' => checkKey_int hk e' 9999 x
 by_cases hx : x ∈ xs
 ·obtain ⟨j, hj⟩ := findNow_some x es.toList xs 0 hm hx
  simp [Instr.lookup, Sem.run_bind, run_underlying ht, MapKept.run_getObj_map hh, hck, Instr.findKey, run_underlying hk, hj, hx]
 ·have hj := findNow_none x es.toList xs 0 hm hx
  simp [Instr.lookup, Sem.run_bind, run_underlying ht, MapKept.run_getObj_map hh, hck, Instr.findKey, run_underlying hk, hj, hx, hz]
theorem SeenAt.put {t k e : TypeId} (h : SeenAt w b xs) (ht : P.underlying t = some (.map k e)) (hk : P.underlying k = some (.int .i64)) (x : Int) (hx : x ∉ xs) :
  ∃ w', (Instr.mapUpdate t (.map (some b)) (.int .i64 x) (.bool true)).run P w = .ok () w' ∧ SeenAt w' b (xs ++ [x]) ∧ w.grownBy w' (some b) ∧ w'.heap.size = w.heap.size := by
 obtain ⟨es, clock, hh, hm⟩ := h
 have hck : ∀ e' : Bool, (Instr.checkKey e' 10000 k (.int .i64 x)).run P w = .ok () w := fun e' => checkKey_int hk e' 9999 x
 have hj := findNow_none x es.toList xs 0 hm hx
 refine ⟨{ w with heap := w.heap.setIfInBounds b (.map (es.push { key := .int .i64 x, val := .bool true, born := clock }) (clock + 1)) }, ?_, ?_, ?_, ?_⟩
 ·simp [Instr.mapUpdate, Sem.run_bind, run_underlying ht, MapKept.run_getObj_map hh, hck, Instr.findKey, run_underlying hk, hj, setObj, Sem.run, hh]
 ·refine ⟨es.push { key := .int .i64 x, val := .bool true, born := clock }, clock + 1, ?_, by simp [hm]⟩
  simp [hlt hh]
 ·exact ⟨rfl, rfl, rfl, by simp, fun i _ hi => by simp only [Array.getElem?_setIfInBounds]; rw [if_neg (fun e => hi (by rw [e]))]⟩
 ·simp
end
end Go.Proofs.Ytggfdkkhlokmlab

namespace Go.Proofs.Ytggfdkkhlokmlab
open Go.RowKit
attribute [local go_sem] hc_has hc_cr hc_sent hc_lim hc_pays hc_next hc_size

theorem info30 : (Try.prog.info? 29).map (·.size) = some 42 := by kernel_rfl
theorem info36 : (Try.prog.info? 70).map (·.size) = some 6 := by kernel_rfl
theorem info25 : (Try.prog.info? 24).map (·.size) = some 8 := by kernel_rfl
theorem info27 : (Try.prog.info? 26).map (·.size) = some 16 := by kernel_rfl

set_option maxHeartbeats 400000 in
theorem small_any (n lo hi : Int) (w : World) : Calls Try.prog 43 #[.int .i64 n, .int .i64 lo, .int .i64 hi] w fun e w' => e = .returned (.bool (sm lo n hi)) ∧ w = w' := by
 go_enter Try.func43, Try.ntmps43
 by_cases h1 : lo ≤ n
 ·go_wp2
  go_ret
  exact ⟨by simp [sm, h1], rfl⟩
 ·go_wp2
  go_ret
  exact ⟨by simp [sm]; omega, rfl⟩
set_option maxHeartbeats 400000 in
theorem within_any (n lo hi : Int) (w : World) : Calls Try.prog 59 #[.int .i64 n, .int .i64 lo, .int .i64 hi] w fun e w' => e = .returned (.bool (sm lo n hi)) ∧ w = w' := by
 go_enter Try.func59, Try.ntmps59
 by_cases h1 : lo ≤ n
 ·go_wp2
  go_ret
  exact ⟨by simp [sm, h1], rfl⟩
 ·go_wp2
  go_ret
  exact ⟨by simp [sm]; omega, rfl⟩

/-- Bounds under which no sum of a house leaves 64 bits. -/
structure Hs.Room (h : Hs) : Prop where
 has : ∀ i, 0 ≤ i → i < 4 → -4611686018427387904 ≤ h.has i ∧ h.has i ≤ 4611686018427387904
 cr : ∀ i, 0 ≤ i → i < 4 → 0 ≤ h.cr i ∧ h.cr i ≤ 1000000
 sent : ∀ i k, 0 ≤ i → i < 4 → 0 ≤ k → k < 4 → 0 ≤ h.sent i k ∧ h.sent i k ≤ 4611686018427386904

set_option maxHeartbeats 400000 in
theorem left_any (h : Hs) (s : Value) (i : Int) (w : World) (h0 : 0 ≤ i) (h1 : i < 4) (hr : h.Room) :
  Calls Try.prog 22 #[.agg (hc h s), .int .i64 i] w fun e w' => e = .returned (.int .i64 (h.has i + h.cr i)) ∧ Below w.heap.size w w' := by
 have hb := hr.has i h0 h1
 have hb' := hr.cr i h0 h1
 clear hr
 go_enter Try.func22, Try.ntmps22
 go_wp2
 go_quiet (fail)
 go_wp2
 go_ret
 exact ⟨rfl, below_drewN ((Below.refl _ _).alloc (Nat.le_refl _) _) _⟩

set_option maxHeartbeats 400000 in
theorem net_any (h : Hs) (s : Value) (i k : Int) (w : World) (h0 : 0 ≤ i) (h1 : i < 4) (k0 : 0 ≤ k) (k1 : k < 4) (hr : h.Room) :
  Calls Try.prog 23 #[.agg (hc h s), .int .i64 i, .int .i64 k] w fun e w' => e = .returned (.int .i64 (h.sent i k - h.sent k i)) ∧ Below w.heap.size w w' := by
 have hb := hr.sent i k h0 h1 k0 k1
 have hb' := hr.sent k i k0 k1 h0 h1
 clear hr
 go_enter Try.func23, Try.ntmps23
 go_wp2
 go_quiet (fail)
 go_wp2
 go_ret
 exact ⟨rfl, below_drewN ((Below.refl _ _).alloc (Nat.le_refl _) _) _⟩

/-- Are from, to and amount such that a sum may be sent at all? -/
def sends (frm to amt : Int) : Bool := sm 0 frm 3 && sm 0 to 3 && !(frm == to) && sm 1 amt 1000000
/-- May the sum be sent now? -/
def mayB (h : Hs) (frm to amt : Int) : Bool := sends frm to amt && (decide (amt ≤ h.has frm + h.cr frm) && (decide (h.lim frm to < 0) || decide (h.sent frm to - h.sent to frm + amt ≤ h.lim frm to)))

/-- Below, step by step: a call's own world. -/
theorem bstep {B : Nat} {a w w1 : World} (h : Below B a w) (hB : B ≤ w.heap.size) (h1 : Below w.heap.size w w1) : Below B a w1 := h.trans (h1.mono hB)

set_option maxHeartbeats 1000000 in
theorem may_no (h : Hs) (s : Value) (frm to amt : Int) (w : World) (hs : sends frm to amt = false) :
  Calls Try.prog 80 #[.agg (hc h s), .int .i64 frm, .int .i64 to, .int .i64 amt] w fun e w' => e = .returned (.bool (mayB h frm to amt)) ∧ Below w.heap.size w w' := by
 have fin : mayB h frm to amt = false := by simp [mayB, hs]
 replace fin := Lib.hid fin
 cases e1 : sm 0 frm 3
 ·clear hs
  go_enter Try.func80, Try.ntmps80
  go_wp2_with (go_at_call 43; refine (small_any _ _ _ _).mono ?_; rintro e w' ⟨rfl, rfl⟩)
  go_ret
  exact ⟨by rw [fin.out]; rfl, (Below.refl _ _).alloc (Nat.le_refl _) _⟩
 cases e2 : sm 0 to 3
 ·clear hs
  go_enter Try.func80, Try.ntmps80
  go_wp2_with (go_at_call 43; refine (small_any _ _ _ _).mono ?_; rintro e w' ⟨rfl, rfl⟩)
  go_ret
  exact ⟨by rw [fin.out]; rfl, (Below.refl _ _).alloc (Nat.le_refl _) _⟩
 cases e3 : frm == to
 ·cases e4 : sm 1 amt 1000000
  ·clear hs
   go_enter Try.func80, Try.ntmps80
   go_wp2_with (go_at_call 43; refine (small_any _ _ _ _).mono ?_; rintro e w' ⟨rfl, rfl⟩)
   go_ret
   exact ⟨by rw [fin.out]; rfl, (Below.refl _ _).alloc (Nat.le_refl _) _⟩
  ·simp [sends, e1, e2, e3, e4] at hs
 ·clear hs
  go_enter Try.func80, Try.ntmps80
  go_wp2_with (go_at_call 43; refine (small_any _ _ _ _).mono ?_; rintro e w' ⟨rfl, rfl⟩)
  go_ret
  exact ⟨by rw [fin.out]; rfl, (Below.refl _ _).alloc (Nat.le_refl _) _⟩

structure Sends (frm to amt : Int) : Prop where
 f0 : 0 ≤ frm
 f1 : frm < 4
 t0 : 0 ≤ to
 t1 : to < 4
 ne : frm ≠ to
 a0 : 1 ≤ amt
 a1 : amt ≤ 1000000
theorem sends_true {frm to amt : Int} : sends frm to amt = true ↔ Sends frm to amt := by
 unfold sends
 constructor
 ·intro h
  simp only [Bool.and_eq_true, Bool.not_eq_true', beq_eq_false_iff_ne] at h
  obtain ⟨⟨⟨h1, h2⟩, h3⟩, h4⟩ := h
  have h1 := sm_true h1; have h2 := sm_true h2; have h4 := sm_true h4
  exact ⟨by omega, by omega, by omega, by omega, h3, by omega, by omega⟩
 ·intro h
  simp only [Bool.and_eq_true, Bool.not_eq_true', beq_eq_false_iff_ne]
  exact ⟨⟨⟨sm_yes ⟨h.f0, by have := h.f1; omega⟩, sm_yes ⟨h.t0, by have := h.t1; omega⟩⟩, h.ne⟩, sm_yes ⟨h.a0, h.a1⟩⟩

set_option maxHeartbeats 1000000 in
theorem may_yes (h : Hs) (s : Value) (frm to amt : Int) (w : World) (hr : h.Room) (hs : Sends frm to amt) :
  Calls Try.prog 80 #[.agg (hc h s), .int .i64 frm, .int .i64 to, .int .i64 amt] w fun e w' => e = .returned (.bool (mayB h frm to amt)) ∧ Below w.heap.size w w' := by
 have fin0 := sends_true.2 hs
 have fin : mayB h frm to amt = (decide (amt ≤ h.has frm + h.cr frm) && (decide (h.lim frm to < 0) || decide (h.sent frm to - h.sent to frm + amt ≤ h.lim frm to))) := by simp [mayB, fin0]
 clear fin0
 replace fin := Lib.hid fin
 obtain ⟨f0, f1, t0, t1, ne, a0, a1⟩ := hs
 have e1 : sm 0 frm 3 = true := sm_yes (by omega)
 have e2 : sm 0 to 3 = true := sm_yes (by omega)
 have e3 : (frm == to) = false := by simpa using ne
 have e4 : sm 1 amt 1000000 = true := sm_yes ⟨a0, a1⟩
 clear ne
 have hg := hnew w (.cells (hc h s) 29)
 have cL := fun w => left_any h s frm w f0 f1 hr
 have cN := fun w => net_any h s frm to w f0 f1 t0 t1 hr
 have r1 := hr.sent frm to f0 f1 t0 t1
 have r2 := hr.sent to frm t0 t1 f0 f1
 replace cL := Lib.hid cL
 replace cN := Lib.hid cN
 clear hr
 by_cases h5 : amt ≤ h.has frm + h.cr frm
 ·by_cases h6 : h.lim frm to < 0
  ·go_enter Try.func80, Try.ntmps80
   go_wp2_with (first | go_skip | (go_at_call 43; refine (small_any _ _ _ _).mono ?_; rintro e w' ⟨rfl, rfl⟩) | (go_at_call 22; refine (cL.out _).mono ?_; rintro e w1 ⟨rfl, hb1⟩) | (refine ld_row 29 _ rfl rfl _ rfl _ _ _ _ hg Try.underlying29 rfl info30 ?_))
   go_ret
   exact ⟨by rw [fin.out]; simp [h5, h6], bstep ((Below.refl _ _).alloc (Nat.le_refl _) _) (by simp) hb1⟩
  ·have hd : decide (h.lim frm to < 0) = false := by simpa using h6
   go_enter Try.func80, Try.ntmps80
   go_wp2_with (first | go_skip | (go_at_call 43; refine (small_any _ _ _ _).mono ?_; rintro e w' ⟨rfl, rfl⟩) | (go_at_call 22; refine (cL.out _).mono ?_; rintro e w1 ⟨rfl, hb1⟩; replace hg := hkeep hb1 hg) | (go_at_call 23; refine (cN.out _).mono ?_; rintro e w2 ⟨rfl, hb2⟩) | (refine ld_row 29 _ rfl rfl _ rfl _ _ _ _ hg Try.underlying29 rfl info30 ?_))
   go_ret
   exact ⟨by rw [fin.out]; simp [h5]; omega, bstep (bstep ((Below.refl _ _).alloc (Nat.le_refl _) _) (by simp) hb1) (by have := hb1.size; simp at this; omega) hb2⟩
 ·have hd : decide (amt ≤ h.has frm + h.cr frm) = false := by simpa using h5
  go_enter Try.func80, Try.ntmps80
  go_wp2_with (first | go_skip | (go_at_call 43; refine (small_any _ _ _ _).mono ?_; rintro e w' ⟨rfl, rfl⟩) | (go_at_call 22; refine (cL.out _).mono ?_; rintro e w1 ⟨rfl, hb1⟩) | (refine ld_row 29 _ rfl rfl _ rfl _ _ _ _ hg Try.underlying29 rfl info30 ?_))
  go_ret
  exact ⟨by rw [fin.out]; simp; omega, bstep ((Below.refl _ _).alloc (Nat.le_refl _) _) (by simp) hb1⟩

theorem may_any (h : Hs) (s : Value) (frm to amt : Int) (w : World) (hr : h.Room) :
  Calls Try.prog 80 #[.agg (hc h s), .int .i64 frm, .int .i64 to, .int .i64 amt] w fun e w' => e = .returned (.bool (mayB h frm to amt)) ∧ Below w.heap.size w w' := by
 cases hs : sends frm to amt
 ·exact may_no h s frm to amt w hs
 ·exact may_yes h s frm to amt w hr (sends_true.1 hs)
end Go.Proofs.Ytggfdkkhlokmlab

namespace Go.Proofs.Ytggfdkkhlokmlab
open Go.RowKit
attribute [local go_sem] pc_0 pc_1 pc_2 pc_3 pc_4 pc_5 pc_size

/-- Is it a payment? -/
def goodPay (p : Pay) : Bool := sm 0 p.frm 3 && sm 0 p.to 3 && !(p.frm == p.to) && sm 1 p.amt 1000000 && sm 0 p.cls 2 && sm 1 p.st 3 && decide (0 ≤ p.seq)

set_option maxHeartbeats 1000000 in
theorem goodPay_any (p : Pay) (w : World) : Calls Try.prog 44 #[.agg (pc p)] w fun e w' => e = .returned (.bool (goodPay p)) ∧ Below w.heap.size w w' := by
 cases e1 : sm 0 p.frm 3
 ·have fin : goodPay p = false := by simp [goodPay, e1]
  replace fin := Lib.hid fin
  go_enter Try.func44, Try.ntmps44
  go_wp2_with (go_at_call 43; refine (small_any _ _ _ _).mono ?_; rintro e w' ⟨rfl, rfl⟩)
  go_ret
  exact ⟨by rw [fin.out]; rfl, (Below.refl _ _).alloc (Nat.le_refl _) _⟩
 cases e2 : sm 0 p.to 3
 ·have fin : goodPay p = false := by simp [goodPay, e1, e2]
  replace fin := Lib.hid fin
  go_enter Try.func44, Try.ntmps44
  go_wp2_with (go_at_call 43; refine (small_any _ _ _ _).mono ?_; rintro e w' ⟨rfl, rfl⟩)
  go_ret
  exact ⟨by rw [fin.out]; rfl, (Below.refl _ _).alloc (Nat.le_refl _) _⟩
 by_cases e3' : (p.frm == p.to) = true
 ·have e3 := e3'
  clear e3'
  have e3b : (p.frm != p.to) = false := by rw [bne, e3]; rfl
  have fin : goodPay p = false := by simp [goodPay, e1, e2, e3]
  replace fin := Lib.hid fin
  go_enter Try.func44, Try.ntmps44
  go_wp2_with (go_at_call 43; refine (small_any _ _ _ _).mono ?_; rintro e w' ⟨rfl, rfl⟩)
  go_ret
  exact ⟨by rw [fin.out]; rfl, (Below.refl _ _).alloc (Nat.le_refl _) _⟩
 have e3 : (p.frm == p.to) = false := by simpa using e3'
 clear e3'
 have e3b : (p.frm != p.to) = true := by rw [bne, e3]; rfl
 cases e4 : sm 1 p.amt 1000000
 ·have fin : goodPay p = false := by simp [goodPay, e1, e2, e3, e4]
  replace fin := Lib.hid fin
  go_enter Try.func44, Try.ntmps44
  go_wp2_with (go_at_call 43; refine (small_any _ _ _ _).mono ?_; rintro e w' ⟨rfl, rfl⟩)
  go_ret
  exact ⟨by rw [fin.out]; rfl, (Below.refl _ _).alloc (Nat.le_refl _) _⟩
 cases e5 : sm 0 p.cls 2
 ·have fin : goodPay p = false := by simp [goodPay, e1, e2, e3, e4, e5]
  replace fin := Lib.hid fin
  go_enter Try.func44, Try.ntmps44
  go_wp2_with (go_at_call 43; refine (small_any _ _ _ _).mono ?_; rintro e w' ⟨rfl, rfl⟩)
  go_ret
  exact ⟨by rw [fin.out]; rfl, (Below.refl _ _).alloc (Nat.le_refl _) _⟩
 cases e6 : sm 1 p.st 3
 ·have fin : goodPay p = false := by simp [goodPay, e1, e2, e3, e4, e5, e6]
  replace fin := Lib.hid fin
  go_enter Try.func44, Try.ntmps44
  go_wp2_with (go_at_call 43; refine (small_any _ _ _ _).mono ?_; rintro e w' ⟨rfl, rfl⟩)
  go_ret
  exact ⟨by rw [fin.out]; rfl, (Below.refl _ _).alloc (Nat.le_refl _) _⟩
 by_cases h7 : 0 ≤ p.seq
 ·have fin : goodPay p = true := by simp [goodPay, e1, e2, e3, e4, e5, e6, h7]
  replace fin := Lib.hid fin
  go_enter Try.func44, Try.ntmps44
  go_wp2_with (go_at_call 43; refine (small_any _ _ _ _).mono ?_; rintro e w' ⟨rfl, rfl⟩)
  go_ret
  exact ⟨by rw [fin.out]; rfl, (Below.refl _ _).alloc (Nat.le_refl _) _⟩
 ·have fin : goodPay p = false := by simp [goodPay]; omega
  have hd : decide (0 ≤ p.seq) = false := by simpa using h7
  replace fin := Lib.hid fin
  go_enter Try.func44, Try.ntmps44
  go_wp2_with (go_at_call 43; refine (small_any _ _ _ _).mono ?_; rintro e w' ⟨rfl, rfl⟩)
  go_ret
  exact ⟨by rw [fin.out]; rfl, (Below.refl _ _).alloc (Nat.le_refl _) _⟩

set_option maxHeartbeats 1000000 in
theorem isPay_any (p : Pay) (w : World) : Calls Try.prog 65 #[.agg (pc p)] w fun e w' => e = .returned (.bool (goodPay p)) ∧ Below w.heap.size w w' := by
 cases e1 : sm 0 p.frm 3
 ·have fin : goodPay p = false := by simp [goodPay, e1]
  replace fin := Lib.hid fin
  go_enter Try.func65, Try.ntmps65
  go_wp2_with (go_at_call 59; refine (within_any _ _ _ _).mono ?_; rintro e w' ⟨rfl, rfl⟩)
  go_ret
  exact ⟨by rw [fin.out]; rfl, (Below.refl _ _).alloc (Nat.le_refl _) _⟩
 cases e2 : sm 0 p.to 3
 ·have fin : goodPay p = false := by simp [goodPay, e1, e2]
  replace fin := Lib.hid fin
  go_enter Try.func65, Try.ntmps65
  go_wp2_with (go_at_call 59; refine (within_any _ _ _ _).mono ?_; rintro e w' ⟨rfl, rfl⟩)
  go_ret
  exact ⟨by rw [fin.out]; rfl, (Below.refl _ _).alloc (Nat.le_refl _) _⟩
 by_cases e3' : (p.frm == p.to) = true
 ·have e3 := e3'
  clear e3'
  have e3b : (p.frm != p.to) = false := by rw [bne, e3]; rfl
  have fin : goodPay p = false := by simp [goodPay, e1, e2, e3]
  replace fin := Lib.hid fin
  go_enter Try.func65, Try.ntmps65
  go_wp2_with (go_at_call 59; refine (within_any _ _ _ _).mono ?_; rintro e w' ⟨rfl, rfl⟩)
  go_ret
  exact ⟨by rw [fin.out]; rfl, (Below.refl _ _).alloc (Nat.le_refl _) _⟩
 have e3 : (p.frm == p.to) = false := by simpa using e3'
 clear e3'
 have e3b : (p.frm != p.to) = true := by rw [bne, e3]; rfl
 cases e4 : sm 1 p.amt 1000000
 ·have fin : goodPay p = false := by simp [goodPay, e1, e2, e3, e4]
  replace fin := Lib.hid fin
  go_enter Try.func65, Try.ntmps65
  go_wp2_with (go_at_call 59; refine (within_any _ _ _ _).mono ?_; rintro e w' ⟨rfl, rfl⟩)
  go_ret
  exact ⟨by rw [fin.out]; rfl, (Below.refl _ _).alloc (Nat.le_refl _) _⟩
 cases e5 : sm 0 p.cls 2
 ·have fin : goodPay p = false := by simp [goodPay, e1, e2, e3, e4, e5]
  replace fin := Lib.hid fin
  go_enter Try.func65, Try.ntmps65
  go_wp2_with (go_at_call 59; refine (within_any _ _ _ _).mono ?_; rintro e w' ⟨rfl, rfl⟩)
  go_ret
  exact ⟨by rw [fin.out]; rfl, (Below.refl _ _).alloc (Nat.le_refl _) _⟩
 cases e6 : sm 1 p.st 3
 ·have fin : goodPay p = false := by simp [goodPay, e1, e2, e3, e4, e5, e6]
  replace fin := Lib.hid fin
  go_enter Try.func65, Try.ntmps65
  go_wp2_with (go_at_call 59; refine (within_any _ _ _ _).mono ?_; rintro e w' ⟨rfl, rfl⟩)
  go_ret
  exact ⟨by rw [fin.out]; rfl, (Below.refl _ _).alloc (Nat.le_refl _) _⟩
 by_cases h7 : 0 ≤ p.seq
 ·have fin : goodPay p = true := by simp [goodPay, e1, e2, e3, e4, e5, e6, h7]
  replace fin := Lib.hid fin
  go_enter Try.func65, Try.ntmps65
  go_wp2_with (go_at_call 59; refine (within_any _ _ _ _).mono ?_; rintro e w' ⟨rfl, rfl⟩)
  go_ret
  exact ⟨by rw [fin.out]; rfl, (Below.refl _ _).alloc (Nat.le_refl _) _⟩
 ·have fin : goodPay p = false := by simp [goodPay]; omega
  have hd : decide (0 ≤ p.seq) = false := by simpa using h7
  replace fin := Lib.hid fin
  go_enter Try.func65, Try.ntmps65
  go_wp2_with (go_at_call 59; refine (within_any _ _ _ _).mono ?_; rintro e w' ⟨rfl, rfl⟩)
  go_ret
  exact ⟨by rw [fin.out]; rfl, (Below.refl _ _).alloc (Nat.le_refl _) _⟩

set_option maxHeartbeats 1000000 in
theorem sendsR_any (frm to amt : Int) (w : World) : Calls Try.prog 92 #[.int .i64 frm, .int .i64 to, .int .i64 amt] w fun e w' => e = .returned (.bool (sends frm to amt)) ∧ w = w' := by
 cases e1 : sm 0 frm 3
 ·have fin : sends frm to amt = false := by simp [sends, e1]
  replace fin := Lib.hid fin
  go_enter Try.func92, Try.ntmps92
  go_wp2_with (go_at_call 59; refine (within_any _ _ _ _).mono ?_; rintro e w' ⟨rfl, rfl⟩)
  go_ret
  exact ⟨by rw [fin.out]; rfl, rfl⟩
 cases e2 : sm 0 to 3
 ·have fin : sends frm to amt = false := by simp [sends, e1, e2]
  replace fin := Lib.hid fin
  go_enter Try.func92, Try.ntmps92
  go_wp2_with (go_at_call 59; refine (within_any _ _ _ _).mono ?_; rintro e w' ⟨rfl, rfl⟩)
  go_ret
  exact ⟨by rw [fin.out]; rfl, rfl⟩
 by_cases e3' : (frm == to) = true
 ·have e3 := e3'
  clear e3'
  have e3b : (frm != to) = false := by rw [bne, e3]; rfl
  have fin : sends frm to amt = false := by simp [sends, e1, e2, e3]
  replace fin := Lib.hid fin
  go_enter Try.func92, Try.ntmps92
  go_wp2_with (go_at_call 59; refine (within_any _ _ _ _).mono ?_; rintro e w' ⟨rfl, rfl⟩)
  go_ret
  exact ⟨by rw [fin.out]; rfl, rfl⟩
 have e3 : (frm == to) = false := by simpa using e3'
 clear e3'
 have e3b : (frm != to) = true := by rw [bne, e3]; rfl
 cases e4 : sm 1 amt 1000000
 ·have fin : sends frm to amt = false := by simp [sends, e1, e2, e3, e4]
  replace fin := Lib.hid fin
  go_enter Try.func92, Try.ntmps92
  go_wp2_with (go_at_call 59; refine (within_any _ _ _ _).mono ?_; rintro e w' ⟨rfl, rfl⟩)
  go_ret
  exact ⟨by rw [fin.out]; rfl, rfl⟩
 have fin : sends frm to amt = true := by simp [sends, e1, e2, e3, e4]
 replace fin := Lib.hid fin
 go_enter Try.func92, Try.ntmps92
 go_wp2_with (go_at_call 59; refine (within_any _ _ _ _).mono ?_; rintro e w' ⟨rfl, rfl⟩)
 go_ret
 exact ⟨by rw [fin.out]; rfl, rfl⟩
end Go.Proofs.Ytggfdkkhlokmlab

namespace Go.Proofs.Ytggfdkkhlokmlab
open Go.RowKit

def Hs.setHas (h : Hs) (i v : Int) : Hs := { h with has := fun j => if j = i then v else h.has j }
def Hs.setSent (h : Hs) (i k v : Int) : Hs := { h with sent := fun a b => if a = i ∧ b = k then v else h.sent a b }
/-- The house behind a sum that was sent. -/
def Hs.move (h : Hs) (frm to amt : Int) : Hs := if sends frm to amt then ((h.setHas frm (h.has frm - amt)).setHas to (h.has to + amt)).setSent frm to (h.sent frm to + amt) else h
theorem setHas_ne (h : Hs) (i v k : Int) (hne : (i == k) = false) : (h.setHas i v).has k = h.has k := by
 have : i ≠ k := by simpa using hne
 simp [Hs.setHas, Ne.symm this]
theorem setHas_ne' (h : Hs) (i v k : Int) (hne : (k == i) = false) : (h.setHas i v).has k = h.has k := by
 have : k ≠ i := by simpa using hne
 simp [Hs.setHas, this]
theorem setHas_eq (h : Hs) (i v : Int) : (h.setHas i v).has i = v := by simp [Hs.setHas]
theorem setHas_sent (h : Hs) (i v : Int) : (h.setHas i v).sent = h.sent := rfl
theorem setHas_lim (h : Hs) (i v : Int) : (h.setHas i v).lim = h.lim := rfl
theorem setHas_cr (h : Hs) (i v : Int) : (h.setHas i v).cr = h.cr := rfl
theorem setHas_next (h : Hs) (i v : Int) : (h.setHas i v).next = h.next := rfl
theorem hc_setHas (h : Hs) (s : Value) (i v : Int) (h0 : 0 ≤ i) (h1 : i < 4) : (hc h s).setIfInBounds (i.toNat * 2) (.int .i64 v) = hc (h.setHas i v) s := by
 rcases four ⟨h0, h1⟩ with rfl | rfl | rfl | rfl <;> rfl
theorem hc_setSent (h : Hs) (s : Value) (i k v : Int) (h0 : 0 ≤ i) (h1 : i < 4) (k0 : 0 ≤ k) (k1 : k < 4) : (hc h s).setIfInBounds (8 + i.toNat * 4 + k.toNat) (.int .i64 v) = hc (h.setSent i k v) s := by
 rcases four ⟨h0, h1⟩ with rfl | rfl | rfl | rfl <;> rcases four ⟨k0, k1⟩ with rfl | rfl | rfl | rfl <;> rfl
attribute [local go_sem] hc_has hc_cr hc_sent hc_lim hc_pays hc_next hc_size hc_setHas hc_setSent setHas_ne setHas_ne' setHas_eq setHas_sent setHas_lim setHas_cr setHas_next

theorem results_house {fn : Func} {p : Tmp} (hf : fn.results = #[.cell p 29]) (tmps : Array Value) (w : World) (g : Nat) (h : Hs) (s : Value)
  (hp : tmps.getD p undef = .pointer (some ⟨g, 0, none⟩)) (hg : w.heap[g]? = some (.cells (hc h s) 29 (0, 0))) : (results fn tmps).run Try.prog w = .ok (.agg (hc h s)) w :=
 results_cell_row hf tmps w g 29 _ (0, 0) _ hp hg Try.underlying29 rfl info30

set_option maxHeartbeats 1000000 in
theorem move_no (h : Hs) (s : Value) (frm to amt : Int) (w : World) (hs : sends frm to amt = false) (h1 : s.oneCell' = true) :
  Calls Try.prog 70 #[.agg (hc h s), .int .i64 frm, .int .i64 to, .int .i64 amt] w fun e w' => e = .returned (.agg (hc h s)) ∧ Below w.heap.size w w' := by
 cases e1 : sm 0 frm 3
 ·clear hs
  go_enter Try.func70, Try.ntmps70
  go_wp2_with (first | go_skip | (go_at_call 43; refine (small_any _ _ _ _).mono ?_; rintro e w' ⟨rfl, rfl⟩) | (refine ld_row 29 _ rfl rfl _ rfl _ _ _ _ (heap_alloc2_old _ _ _) Try.underlying29 rfl info30 ?_) | (refine st_row 29 _ _ rfl rfl _ rfl _ rfl _ _ (heap_alloc2_new _ _ _) info30 rfl (hc_one _ _ h1) ?_; intro w' hr hgr hsz))
  refine bodyPost_ret (results_house rfl _ _ _ _ _ rfl hr) rfl ⟨rfl, ?_⟩
  exact (((Below.refl _ _).alloc (Nat.le_refl _) _).alloc (by simp) _).grown hgr (by simp; omega) (fun k hk => by cases hk; omega)
 cases e2 : sm 0 to 3
 ·clear hs
  go_enter Try.func70, Try.ntmps70
  go_wp2_with (first | go_skip | (go_at_call 43; refine (small_any _ _ _ _).mono ?_; rintro e w' ⟨rfl, rfl⟩) | (refine ld_row 29 _ rfl rfl _ rfl _ _ _ _ (heap_alloc2_old _ _ _) Try.underlying29 rfl info30 ?_) | (refine st_row 29 _ _ rfl rfl _ rfl _ rfl _ _ (heap_alloc2_new _ _ _) info30 rfl (hc_one _ _ h1) ?_; intro w' hr hgr hsz))
  refine bodyPost_ret (results_house rfl _ _ _ _ _ rfl hr) rfl ⟨rfl, ?_⟩
  exact (((Below.refl _ _).alloc (Nat.le_refl _) _).alloc (by simp) _).grown hgr (by simp; omega) (fun k hk => by cases hk; omega)
 cases e3 : frm == to
 ·cases e4 : sm 1 amt 1000000
  ·clear hs
   go_enter Try.func70, Try.ntmps70
   go_wp2_with (first | go_skip | (go_at_call 43; refine (small_any _ _ _ _).mono ?_; rintro e w' ⟨rfl, rfl⟩) | (refine ld_row 29 _ rfl rfl _ rfl _ _ _ _ (heap_alloc2_old _ _ _) Try.underlying29 rfl info30 ?_) | (refine st_row 29 _ _ rfl rfl _ rfl _ rfl _ _ (heap_alloc2_new _ _ _) info30 rfl (hc_one _ _ h1) ?_; intro w' hr hgr hsz))
   refine bodyPost_ret (results_house rfl _ _ _ _ _ rfl hr) rfl ⟨rfl, ?_⟩
   exact (((Below.refl _ _).alloc (Nat.le_refl _) _).alloc (by simp) _).grown hgr (by simp; omega) (fun k hk => by cases hk; omega)
  ·simp [sends, e1, e2, e3, e4] at hs
 ·clear hs
  go_enter Try.func70, Try.ntmps70
  go_wp2_with (first | go_skip | (go_at_call 43; refine (small_any _ _ _ _).mono ?_; rintro e w' ⟨rfl, rfl⟩) | (refine ld_row 29 _ rfl rfl _ rfl _ _ _ _ (heap_alloc2_old _ _ _) Try.underlying29 rfl info30 ?_) | (refine st_row 29 _ _ rfl rfl _ rfl _ rfl _ _ (heap_alloc2_new _ _ _) info30 rfl (hc_one _ _ h1) ?_; intro w' hr hgr hsz))
  refine bodyPost_ret (results_house rfl _ _ _ _ _ rfl hr) rfl ⟨rfl, ?_⟩
  exact (((Below.refl _ _).alloc (Nat.le_refl _) _).alloc (by simp) _).grown hgr (by simp; omega) (fun k hk => by cases hk; omega)

set_option maxHeartbeats 1000000 in
theorem move_yes (h : Hs) (s : Value) (frm to amt : Int) (w : World) (hr : h.Room) (hs : Sends frm to amt) (h1 : s.oneCell' = true) :
  Calls Try.prog 70 #[.agg (hc h s), .int .i64 frm, .int .i64 to, .int .i64 amt] w fun e w' => e = .returned (.agg (hc (h.move frm to amt) s)) ∧ Below w.heap.size w w' := by
 have fin : h.move frm to amt = ((h.setHas frm (h.has frm - amt)).setHas to (h.has to + amt)).setSent frm to (h.sent frm to + amt) := by simp [Hs.move, sends_true.2 hs]
 replace fin := Lib.hid fin
 obtain ⟨f0, f1, t0, t1, ne, a0, a1⟩ := hs
 have e1 : sm 0 frm 3 = true := sm_yes (by omega)
 have e2 : sm 0 to 3 = true := sm_yes (by omega)
 have e3 : (frm == to) = false := by simpa using ne
 have e4 : sm 1 amt 1000000 = true := sm_yes ⟨a0, a1⟩
 clear ne
 have r0 := hr.has frm f0 f1
 have r1 := hr.has to t0 t1
 have r2 := hr.sent frm to f0 f1 t0 t1
 clear hr
 go_enter Try.func70, Try.ntmps70
 go_wp2_with (first | go_skip | (go_at_call 43; refine (small_any _ _ _ _).mono ?_; rintro e w' ⟨rfl, rfl⟩) | (refine ld_row 29 _ rfl rfl _ rfl _ _ _ _ (heap_alloc2_old _ _ _) Try.underlying29 rfl info30 ?_) | (refine st_row 29 _ _ rfl rfl _ rfl _ rfl _ _ (heap_alloc2_new _ _ _) info30 rfl (hc_one _ _ h1) ?_; intro w' hr hgr hsz))
 go_region
 go_wp2_with (first | go_skip | (go_at_call 43; refine (small_any _ _ _ _).mono ?_; rintro e w' ⟨rfl, rfl⟩) | (refine ld_row 29 _ rfl rfl _ rfl _ _ _ _ (heap_alloc2_old _ _ _) Try.underlying29 rfl info30 ?_) | (refine st_row 29 _ _ rfl rfl _ rfl _ rfl _ _ (heap_alloc2_new _ _ _) info30 rfl (hc_one _ _ h1) ?_; intro w' hr hgr hsz))
 refine bodyPost_ret (results_house rfl _ _ _ _ _ rfl hr) rfl ⟨by rw [fin.out], ?_⟩
 exact ((((Below.refl _ _).alloc (Nat.le_refl _) _).alloc (by simp) _).drew).grown hgr (by simp; omega) (fun k hk => by cases hk; omega)
end Go.Proofs.Ytggfdkkhlokmlab

namespace Go.Proofs.Ytggfdkkhlokmlab
open Go.RowKit
attribute [local go_sem] hc_has hc_cr hc_sent hc_lim hc_pays hc_next hc_size

set_option maxHeartbeats 1000000 in
theorem maySend_no (h : Hs) (s : Value) (frm to amt : Int) (w : World) (hs : sends frm to amt = false) :
  Calls Try.prog 84 #[.agg (hc h s), .int .i64 frm, .int .i64 to, .int .i64 amt] w fun e w' => e = .returned (.bool (mayB h frm to amt)) ∧ Below w.heap.size w w' := by
 have fin : mayB h frm to amt = false := by simp [mayB, hs]
 replace fin := Lib.hid fin
 go_enter Try.func84, Try.ntmps84
 go_wp2
 go_quiet ((go_at_call 92; exact Calls.quiet_of_same ((sendsR_any _ _ _ _).mono (fun _ _ h => ⟨h.1, h.2.symm⟩))))
 go_wp2
 go_ret
 exact ⟨by rw [fin.out]; rfl, below_drewN ((Below.refl _ _).alloc (Nat.le_refl _) _) _⟩

set_option maxHeartbeats 1000000 in
theorem maySend_yes (h : Hs) (s : Value) (frm to amt : Int) (w : World) (hr : h.Room) (hs : Sends frm to amt) :
  Calls Try.prog 84 #[.agg (hc h s), .int .i64 frm, .int .i64 to, .int .i64 amt] w fun e w' => e = .returned (.bool (mayB h frm to amt)) ∧ Below w.heap.size w w' := by
 have fin0 := sends_true.2 hs
 have fin : mayB h frm to amt = (decide (amt ≤ h.has frm + h.cr frm) && (decide (h.lim frm to < 0) || decide (h.sent frm to - h.sent to frm + amt ≤ h.lim frm to))) := by simp [mayB, fin0]
 replace fin := Lib.hid fin
 obtain ⟨f0, f1, t0, t1, ne, a0, a1⟩ := hs
 clear ne
 have r1 := hr.sent frm to f0 f1 t0 t1
 have r2 := hr.sent to frm t0 t1 f0 f1
 have r3 := hr.has frm f0 f1
 have r4 := hr.cr frm f0 f1
 clear hr
 by_cases h5 : h.has frm - amt < - h.cr frm
 ·go_enter Try.func84, Try.ntmps84
  go_wp2
  go_quiet ((go_at_call 92; exact Calls.quiet_of_same ((sendsR_any _ _ _ _).mono (fun _ _ h => ⟨h.1, h.2.symm⟩))))
  go_wp2
  go_ret
  exact ⟨by rw [fin.out]; simp; omega, below_drewN ((Below.refl _ _).alloc (Nat.le_refl _) _) _⟩
 ·have hd : decide (h.has frm - amt < - h.cr frm) = false := by simpa using h5
  by_cases h6 : h.lim frm to ≤ -1
  ·go_enter Try.func84, Try.ntmps84
   go_wp2
   go_quiet ((go_at_call 92; exact Calls.quiet_of_same ((sendsR_any _ _ _ _).mono (fun _ _ h => ⟨h.1, h.2.symm⟩))))
   go_wp2
   go_quiet (fail)
   go_wp2
   go_ret
   exact ⟨by rw [fin.out]; simp; omega, below_drewN (below_drewN ((Below.refl _ _).alloc (Nat.le_refl _) _) _) _⟩
  ·have hd2 : decide (h.lim frm to ≤ -1) = false := by simpa using h6
   go_enter Try.func84, Try.ntmps84
   go_wp2
   go_quiet ((go_at_call 92; exact Calls.quiet_of_same ((sendsR_any _ _ _ _).mono (fun _ _ h => ⟨h.1, h.2.symm⟩))))
   go_wp2
   go_quiet (fail)
   go_wp2
   go_ret
   have x1 : decide (amt ≤ h.has frm + h.cr frm) = true := by simp; omega
   have x2 : decide (h.lim frm to < 0) = false := by simp; omega
   exact ⟨by rw [fin.out, x1, x2]; rfl, below_drewN (below_drewN ((Below.refl _ _).alloc (Nat.le_refl _) _) _) _⟩

theorem maySend_any (h : Hs) (s : Value) (frm to amt : Int) (w : World) (hr : h.Room) :
  Calls Try.prog 84 #[.agg (hc h s), .int .i64 frm, .int .i64 to, .int .i64 amt] w fun e w' => e = .returned (.bool (mayB h frm to amt)) ∧ Below w.heap.size w w' := by
 cases hs : sends frm to amt
 ·exact maySend_no h s frm to amt w hs
 ·exact maySend_yes h s frm to amt w hr (sends_true.1 hs)
theorem move_any (h : Hs) (s : Value) (frm to amt : Int) (w : World) (hr : h.Room) (h1 : s.oneCell' = true) :
  Calls Try.prog 70 #[.agg (hc h s), .int .i64 frm, .int .i64 to, .int .i64 amt] w fun e w' => e = .returned (.agg (hc (h.move frm to amt) s)) ∧ Below w.heap.size w w' := by
 cases hs : sends frm to amt
 ·have e : h.move frm to amt = h := by simp [Hs.move, hs]
  rw [e]
  exact move_no h s frm to amt w hs h1
 ·exact move_yes h s frm to amt w hr (sends_true.1 hs) h1

/-- The reference's move, bank by bank: the first k banks have their new money. -/
def Hs.moveTo (h : Hs) (frm to amt : Int) (k : Nat) : Hs := { h.setSent frm to (h.sent frm to + amt) with has := fun j => if j < k then (if j = frm then h.has j - amt else if j = to then h.has j + amt else h.has j) else h.has j }
theorem hc_ext {h g : Hs} (h1 : ∀ i, 0 ≤ i → i < 4 → h.has i = g.has i) (h2 : ∀ i, 0 ≤ i → i < 4 → h.cr i = g.cr i) (h3 : ∀ i k, 0 ≤ i → i < 4 → 0 ≤ k → k < 4 → h.sent i k = g.sent i k)
  (h4 : ∀ i k, 0 ≤ i → i < 4 → 0 ≤ k → k < 4 → h.lim i k = g.lim i k) (h5 : h.next = g.next) (s : Value) : hc h s = hc g s := by
 unfold hc
 rw [h1 0, h1 1, h1 2, h1 3, h2 0, h2 1, h2 2, h2 3, h5]
 rw [h3 0 0, h3 0 1, h3 0 2, h3 0 3, h3 1 0, h3 1 1, h3 1 2, h3 1 3, h3 2 0, h3 2 1, h3 2 2, h3 2 3, h3 3 0, h3 3 1, h3 3 2, h3 3 3]
 rw [h4 0 0, h4 0 1, h4 0 2, h4 0 3, h4 1 0, h4 1 1, h4 1 2, h4 1 3, h4 2 0, h4 2 1, h4 2 2, h4 2 3, h4 3 0, h4 3 1, h4 3 2, h4 3 3]
 all_goals omega
theorem frozen_at {w : World} {b : Nat} {cs : Array Value} {t : TypeId} (h : w.heap[b]? = some (.cells cs t (0, 0))) : ∀ o : Nat, w.frozen? ⟨b, o, none⟩ = false := fun o => by
 simp [World.frozen?, h]
theorem hcell_set {w : World} {g i : Nat} {cs : Array Value} {t : TypeId} (hg : w.heap[g]? = some (.cells cs t (0, 0))) (v : Value) : (w.setCell ⟨g, i, none⟩ v).heap[g]? = some (.cells (cs.setIfInBounds i v) t (0, 0)) :=
 heap_setCell_same w g i cs t v hg
end Go.Proofs.Ytggfdkkhlokmlab

namespace Go.Proofs.Ytggfdkkhlokmlab
open Go.RowKit

theorem hc_setHasN (h : Hs) (s : Value) (i : Nat) (v : Int) (h1 : i < 4) : (hc h s).setIfInBounds (i * 2) (.int .i64 v) = hc (h.setHas i v) s := hc_setHas h s i v (by omega) (by omega)
theorem moveTo_has (h : Hs) (frm to amt : Int) (k : Nat) : (h.moveTo frm to amt k).has (k : Int) = h.has k := by simp [Hs.moveTo]
theorem moveTo_start (h : Hs) (frm to amt : Int) (s : Value) : hc (h.setSent frm to (h.sent frm to + amt)) s = hc (h.moveTo frm to amt 0) s := by
 apply hc_ext
 ·intro i h0 h1
  have : ¬ i < 0 := by omega
  simp [Hs.moveTo, Hs.setSent, this]
 ·intros; rfl
 ·intros; rfl
 ·intros; rfl
 ·rfl
theorem moveTo_frm (h : Hs) (frm to amt : Int) (s : Value) (k : Nat) (e : (k : Int) = frm) : hc ((h.moveTo frm to amt k).setHas k (h.has k - amt)) s = hc (h.moveTo frm to amt (k + 1)) s := by
 apply hc_ext
 ·intro i h0 h1
  simp only [Hs.moveTo, Hs.setHas]
  by_cases h2 : i = k
  ·subst h2; simp [e]; omega
  ·have e3 : (i < (k : Int)) = (i < ((k + 1 : Nat) : Int)) := by apply propext; omega
   simp [h2, e3]
 ·intros; rfl
 ·intros; rfl
 ·intros; rfl
 ·rfl
theorem moveTo_to (h : Hs) (frm to amt : Int) (s : Value) (k : Nat) (e : (k : Int) = to) (hne : (k : Int) ≠ frm) : hc ((h.moveTo frm to amt k).setHas k (h.has k + amt)) s = hc (h.moveTo frm to amt (k + 1)) s := by
 apply hc_ext
 ·intro i h0 h1
  simp only [Hs.moveTo, Hs.setHas]
  by_cases h2 : i = k
  ·subst h2
   have e3 : ¬ (to = frm) := by omega
   rw [if_pos rfl, if_pos (by omega), if_neg hne, if_pos e]
  ·have e3 : (i < (k : Int)) = (i < ((k + 1 : Nat) : Int)) := by apply propext; omega
   simp [h2, e3]
 ·intros; rfl
 ·intros; rfl
 ·intros; rfl
 ·rfl
theorem moveTo_none (h : Hs) (frm to amt : Int) (s : Value) (k : Nat) (e : (k : Int) ≠ to) (hne : (k : Int) ≠ frm) : hc (h.moveTo frm to amt k) s = hc (h.moveTo frm to amt (k + 1)) s := by
 apply hc_ext
 ·intro i h0 h1
  simp only [Hs.moveTo]
  by_cases h2 : i = k
  ·subst h2
   rw [if_neg (by omega), if_pos (by omega), if_neg hne, if_neg e]
  ·have e3 : (i < (k : Int)) = (i < ((k + 1 : Nat) : Int)) := by apply propext; omega
   simp [e3]
 ·intros; rfl
 ·intros; rfl
 ·intros; rfl
 ·rfl
theorem moveTo_end (h : Hs) (frm to amt : Int) (s : Value) (hs : Sends frm to amt) : hc (h.moveTo frm to amt 4) s = hc (h.move frm to amt) s := by
 have fin : h.move frm to amt = ((h.setHas frm (h.has frm - amt)).setHas to (h.has to + amt)).setSent frm to (h.sent frm to + amt) := by simp [Hs.move, sends_true.2 hs]
 rw [fin]
 have hne := hs.ne
 apply hc_ext
 ·intro i h0 h1
  have : i < ((4 : Nat) : Int) := by omega
  simp only [Hs.moveTo, Hs.setHas, Hs.setSent, this, if_true]
  by_cases h2 : i = frm
  ·subst h2; simp [hne]
  ·by_cases h3 : i = to
   ·subst h3; simp [Ne.symm hne]
   ·simp [h2, h3]
 ·intros; rfl
 ·intros; rfl
 ·intros; rfl
 ·rfl
attribute [local go_sem] hc_has hc_cr hc_sent hc_lim hc_pays hc_next hc_size hc_setHas hc_setSent moveTo_has
attribute [local go_sem low] hc_hasN hc_crN hc_sentN hc_limN

set_option maxHeartbeats 1000000 in
theorem moveSum_no (h : Hs) (s : Value) (frm to amt : Int) (w : World) (hs : sends frm to amt = false) (h1 : s.oneCell' = true) :
  Calls Try.prog 91 #[.agg (hc h s), .int .i64 frm, .int .i64 to, .int .i64 amt] w fun e w' => e = .returned (.agg (hc (h.move frm to amt) s)) ∧ Below w.heap.size w w' := by
 have fin : h.move frm to amt = h := by simp [Hs.move, hs]
 rw [fin]
 clear fin
 go_enter Try.func91, Try.ntmps91
 go_wp2_with (first | go_skip | (go_at_call 92; refine (sendsR_any _ _ _ _).mono ?_; rintro e w' ⟨rfl, rfl⟩) | (refine ld_row 29 _ rfl rfl _ rfl _ _ _ _ (heap_alloc2_old _ _ _) Try.underlying29 rfl info30 ?_) | (refine st_row 29 _ _ rfl rfl _ rfl _ rfl _ _ (heap_alloc2_new _ _ _) info30 rfl (hc_one _ _ h1) ?_; intro w' hr hgr hsz))
 refine bodyPost_ret (results_house rfl _ _ _ _ _ rfl hr) rfl ⟨rfl, ?_⟩
 exact (((Below.refl _ _).alloc (Nat.le_refl _) _).alloc (by simp) _).grown hgr (by simp; omega) (fun k hk => by cases hk; omega)

set_option maxHeartbeats 1000000 in
theorem moveSum_yes (h : Hs) (s : Value) (frm to amt : Int) (w : World) (hr : h.Room) (hs : Sends frm to amt) (h1 : s.oneCell' = true) :
  Calls Try.prog 91 #[.agg (hc h s), .int .i64 frm, .int .i64 to, .int .i64 amt] w fun e w' => e = .returned (.agg (hc (h.move frm to amt) s)) ∧ Below w.heap.size w w' := by
 have fin := Lib.hid (moveTo_end h frm to amt s hs)
 have es := sends_true.2 hs
 obtain ⟨f0, f1, t0, t1, ne, a0, a1⟩ := hs
 have hne := Lib.hid ne
 clear ne
 have rh := hr.has
 have r2 := hr.sent frm to f0 f1 t0 t1
 clear hr
 go_enter Try.func91, Try.ntmps91
 go_wp2_with (go_at_call 92; refine (sendsR_any _ _ _ _).mono ?_; rintro e w' ⟨rfl, rfl⟩)
 go_region
 go_wp2
 go_loopw [25] (fun i wr => ∃ k : Nat, k ≤ 4 ∧ i = .int .i64 k ∧ wr.heap[w.heap.size]? = some (.cells (hc (h.moveTo frm to amt k) s) 29 (0, 0)) ∧ (∃ z : Array Value, z.size = 42 ∧ wr.heap[w.heap.size + 1]? = some (.cells z 29 (0, 0))) ∧ Below w.heap.size w wr) (fun i _ => (4 - intOf i).toNat)
 case atStart =>
  refine ⟨0, by omega, rfl, ?_, ⟨_, rfl, heap_alloc2_new _ _ _⟩, (((Below.refl _ _).alloc (Nat.le_refl _) _).alloc (by simp) _).drew⟩
  rw [← moveTo_start]
  exact heap_alloc2_old _ _ _
 case round =>
  obtain ⟨k, hk, rfl, hg, ⟨z, hz, hg2⟩, hb⟩ := hrel
  have hcl := cells_at hg
  have hfr := frozen_at hg
  have hsz := hb.size
  have hg2' := hlt hg2
  by_cases h4 : k < 4
  ·have rk := rh k (by omega) (by omega)
   clear rh
   by_cases hf : (k : Int) = frm
   ·have x1 : ((k : Int) == frm) = true := by simpa using hf
    have x2 : ((k : Int) == to) = false := by have := hne.out; simp; omega
    replace hf := Lib.hid hf
    go_wp2
    go_roundw
    case rel =>
     refine ⟨k + 1, by omega, by go_num, ?_, ⟨z, hz, ?_⟩, hb.setCell (Nat.le_refl _) _⟩
     ·rw [← moveTo_frm h frm to amt s k hf.out, ← hc_setHasN _ _ _ _ h4]
      exact hcell_set hg _
     ·rw [heap_setCell_other _ _ _ _ (by simp)]
      exact hg2
    case measure => simp [intOf]; omega
   ·have x1 : ((k : Int) == frm) = false := by simpa using hf
    replace hf := Lib.hid hf
    by_cases ht : (k : Int) = to
    ·have x2 : ((k : Int) == to) = true := by simpa using ht
     replace ht := Lib.hid ht
     go_wp2
     go_roundw
     case rel =>
      refine ⟨k + 1, by omega, by go_num, ?_, ⟨z, hz, ?_⟩, hb.setCell (Nat.le_refl _) _⟩
      ·rw [← moveTo_to h frm to amt s k ht.out hf.out, ← hc_setHasN _ _ _ _ h4]
       exact hcell_set hg _
      ·rw [heap_setCell_other _ _ _ _ (by simp)]
       exact hg2
     case measure => simp [intOf]; omega
    ·have x2 : ((k : Int) == to) = false := by simpa using ht
     replace ht := Lib.hid ht
     go_wp2
     go_roundw
     case rel =>
      refine ⟨k + 1, by omega, by go_num, ?_, ⟨z, hz, hg2⟩, hb⟩
      rw [← moveTo_none h frm to amt s k ht.out hf.out]
      exact hg
     case measure => simp [intOf]; omega
  ·obtain rfl : k = 4 := by omega
   clear rh
   rw [fin.out] at hg
   go_wp2_with (first | go_skip | (refine ld_row 29 _ rfl rfl _ rfl _ _ _ _ hg Try.underlying29 rfl info30 ?_) | (refine st_row 29 _ _ rfl rfl _ rfl _ rfl _ _ hg2 info30 hz (hc_one _ _ h1) ?_; intro w' hr hgr hsz'))
   refine bodyPost_ret (results_house rfl _ _ _ _ _ rfl hr) rfl ⟨rfl, ?_⟩
   exact hb.grown hgr hsz (fun k hk => by cases hk; omega)
theorem moveSum_any (h : Hs) (s : Value) (frm to amt : Int) (w : World) (hr : h.Room) (h1 : s.oneCell' = true) :
  Calls Try.prog 91 #[.agg (hc h s), .int .i64 frm, .int .i64 to, .int .i64 amt] w fun e w' => e = .returned (.agg (hc (h.move frm to amt) s)) ∧ Below w.heap.size w w' := by
 cases hs : sends frm to amt
 ·exact moveSum_no h s frm to amt w hs h1
 ·exact moveSum_yes h s frm to amt w hr (sends_true.1 hs) h1
end Go.Proofs.Ytggfdkkhlokmlab

namespace Go.Proofs.Ytggfdkkhlokmlab
open Go.RowKit

theorem index_accs (h : Hs) (k : Nat) (hk : k < 4) (w : World) : (Instr.index 24 (.agg (accs h)) (.int .i64 (k : Int))).run Try.prog w = .ok (.agg #[.int .i64 (h.has k), .int .i64 (h.cr k)]) w := by
 rcases k with _ | _ | _ | _ | k
 ·kernel_rfl
 ·kernel_rfl
 ·kernel_rfl
 ·kernel_rfl
 ·omega
attribute [local go_sem] hc_has hc_cr hc_sent hc_lim hc_pays hc_next hc_size index_accs
attribute [local go_sem low] hc_hasN hc_crN hc_sentN hc_limN

end Go.Proofs.Ytggfdkkhlokmlab

namespace Go.Proofs.Ytggfdkkhlokmlab
open Go.RowKit

def Hs.setLim (h : Hs) (i k v : Int) : Hs := { h with lim := fun a b => if a = i ∧ b = k then v else h.lim a b }
theorem hc_setLim (h : Hs) (s : Value) (i k v : Int) (h0 : 0 ≤ i) (h1 : i < 4) (k0 : 0 ≤ k) (k1 : k < 4) : (hc h s).setIfInBounds (24 + i.toNat * 4 + k.toNat) (.int .i64 v) = hc (h.setLim i k v) s := by
 rcases four ⟨h0, h1⟩ with rfl | rfl | rfl | rfl <;> rcases four ⟨k0, k1⟩ with rfl | rfl | rfl | rfl <;> rfl
/-- A new house, of which the first n limits are written. -/
def Hs.newTo (n : Nat) : Hs := { has := fun _ => 0, cr := fun _ => 0, sent := fun _ _ => 0, lim := fun i k => if i * 4 + k < n then -1 else 0, next := 0 }
def Hs.new : Hs := { has := fun _ => 0, cr := fun _ => 0, sent := fun _ _ => 0, lim := fun _ _ => -1, next := 0 }
theorem newTo_end (s : Value) : hc (Hs.newTo 16) s = hc Hs.new s := by
 apply hc_ext
 ·intros; rfl
 ·intros; rfl
 ·intros; rfl
 ·intro i k h0 h1 k0 k1
  have : i * 4 + k < ((16 : Nat) : Int) := by omega
  simp only [Hs.newTo, Hs.new, this, if_true]
 ·rfl
theorem newTo_step (s : Value) (n i k : Nat) (hi : i < 4) (hk : k < 4) (hn : n = 4 * i + k) : (hc (Hs.newTo n) s).setIfInBounds (24 + i * 4 + k) (.int .i64 (-1)) = hc (Hs.newTo (n + 1)) s := by
 have := hc_setLim (Hs.newTo n) s i k (-1) (by omega) (by omega) (by omega) (by omega)
 rw [Int.toNat_natCast, Int.toNat_natCast] at this
 rw [this]
 apply hc_ext
 ·intros; rfl
 ·intros; rfl
 ·intros; rfl
 ·intro a b h0 h1 k0 k1
  simp only [Hs.setLim, Hs.newTo]
  by_cases hab : a = (i : Int) ∧ b = (k : Int)
  ·rw [if_pos hab, if_pos (by omega)]
  ·rw [if_neg hab]
   by_cases h2 : a * 4 + b < (n : Int)
   ·rw [if_pos h2, if_pos (by omega)]
   ·rw [if_neg h2, if_neg (by omega)]
 ·rfl
attribute [local go_sem] hc_size

set_option maxHeartbeats 1000000 in
theorem newHouse_any (w : World) :
  Calls Try.prog 56 #[] w fun e w' => e = .returned (.agg (hc Hs.new (.slice none 0 0))) ∧ Below w.heap.size w w' := by
 have fin := Lib.hid (newTo_end (.slice none 0 0))
 go_enter Try.func56, Try.ntmps56
 go_wp2
 go_loopw [3] (fun i wr => ∃ k : Nat, k ≤ 16 ∧ i = .int .i64 k ∧ wr.heap[w.heap.size + 1]? = some (.cells (hc (Hs.newTo k) (.slice none 0 0)) 29 (0, 0)) ∧ (∃ z : Array Value, z.size = 42 ∧ wr.heap[w.heap.size]? = some (.cells z 29 (0, 0))) ∧ Below w.heap.size w wr) (fun i _ => (16 - intOf i).toNat)
 case atStart => exact ⟨0, by omega, rfl, heap_alloc2_new _ _ _, ⟨_, rfl, heap_alloc2_old _ _ _⟩, ((Below.refl _ _).alloc (Nat.le_refl _) _).alloc (by simp) _⟩
 case round =>
  obtain ⟨k, hk, rfl, hg, ⟨z, hz, hg2⟩, hb⟩ := hrel
  have hsz := hb.size
  by_cases h4 : k < 16
  ·have q1 : 0 ≤ (k : Int) / 4 := by omega
   have q2 : (k : Int) / 4 < 4 := by omega
   have q3 : 0 ≤ (k : Int) % 4 := by omega
   have q4 : (k : Int) % 4 < 4 := by omega
   obtain ⟨v, hv⟩ : ∃ v, (hc (Hs.newTo k) (.slice none 0 0))[24 + k / 4 * 4 + k % 4]? = some v := ⟨_, hc_limN _ _ (k / 4) (k % 4) (by omega) (by omega)⟩
   have hcl := cells_at hg
   have hfr := frozen_at hg
   go_wp2
   go_roundw
   case rel =>
    refine ⟨k + 1, by omega, by go_num, ?_, ⟨z, hz, ?_⟩, hb.setCell (by simp) _⟩
    ·rw [← newTo_step _ k (k / 4) (k % 4) (by omega) (by omega) (by omega)]
     exact hcell_set hg _
    ·rw [heap_setCell_other _ _ _ _ (by simp)]
     exact hg2
   case measure => simp [intOf]; omega
  ·obtain rfl : k = 16 := by omega
   rw [fin.out] at hg
   go_wp2_with (first | go_skip | (refine ld_row 29 _ rfl rfl _ rfl _ _ _ _ hg Try.underlying29 rfl info30 ?_) | (refine st_row 29 _ _ rfl rfl _ rfl _ rfl _ _ hg2 info30 hz (hc_one _ _ rfl) ?_; intro w' hr hgr hsz'))
   refine bodyPost_ret (results_house rfl _ _ _ _ _ rfl hr) rfl ⟨rfl, ?_⟩
   exact hb.grown hgr hsz (fun k hk => by cases hk; omega)

set_option maxHeartbeats 1000000 in
theorem new_any (w : World) :
  Calls Try.prog 45 #[] w fun e w' => e = .returned (.agg (hc Hs.new (.slice none 0 0))) ∧ Below w.heap.size w w' := by
 have fin := Lib.hid (newTo_end (.slice none 0 0))
 go_enter Try.func45, Try.ntmps45
 go_wp2
 go_loopw [4] (fun i wr => ∃ k : Nat, k ≤ 4 ∧ i = .int .i64 k ∧ wr.heap[w.heap.size + 1]? = some (.cells (hc (Hs.newTo (4 * k)) (.slice none 0 0)) 29 (0, 0)) ∧ (∃ z : Array Value, z.size = 42 ∧ wr.heap[w.heap.size]? = some (.cells z 29 (0, 0))) ∧ Below w.heap.size w wr) (fun i _ => (4 - intOf i).toNat)
 case atStart => exact ⟨0, by omega, rfl, heap_alloc2_new _ _ _, ⟨_, rfl, heap_alloc2_old _ _ _⟩, ((Below.refl _ _).alloc (Nat.le_refl _) _).alloc (by simp) _⟩
 case round =>
  obtain ⟨k, hk, rfl, hg, ⟨z, hz, hg2⟩, hb⟩ := hrel
  have hsz := hb.size
  by_cases h4 : k < 4
  ·go_wp2
   obtain ⟨wo, hwo⟩ : ∃ wo : World, wo = wr := ⟨_, rfl⟩
   go_loopw [7] (fun i wr => ∃ m : Nat, m ≤ 4 ∧ i = .int .i64 m ∧ wr.heap[w.heap.size + 1]? = some (.cells (hc (Hs.newTo (4 * k + m)) (.slice none 0 0)) 29 (0, 0)) ∧ (∃ z : Array Value, z.size = 42 ∧ wr.heap[w.heap.size]? = some (.cells z 29 (0, 0))) ∧ Below w.heap.size w wr) (fun i _ => (4 - intOf i).toNat)
   case atStart => exact ⟨0, by omega, rfl, hg, ⟨z, hz, hg2⟩, hb⟩
   case round =>
    clear hg hg2 hb hwo hz
    obtain ⟨m, hm, rfl, hg, ⟨z, hz, hg2⟩, hb⟩ := hrel
    by_cases h5 : m < 4
    ·obtain ⟨v, hv⟩ : ∃ v, (hc (Hs.newTo (4 * k + m)) (.slice none 0 0))[24 + k * 4 + m]? = some v := ⟨_, hc_limN _ _ k m h4 h5⟩
     have hcl := cells_at hg
     have hfr := frozen_at hg
     go_wp2
     go_roundw
     case rel =>
      refine ⟨m + 1, by omega, by go_num, ?_, ⟨z, hz, ?_⟩, hb.setCell (by simp) _⟩
      ·rw [show 4 * k + (m + 1) = 4 * k + m + 1 from by omega, ← newTo_step _ (4 * k + m) k m (by omega) (by omega) (by omega)]
       exact hcell_set hg _
      ·rw [heap_setCell_other _ _ _ _ (by simp)]
       exact hg2
     case measure => simp [intOf]; omega
    ·obtain rfl : m = 4 := by omega
     go_wp2
     go_roundw
     case rel => exact ⟨k + 1, by omega, by go_num, by rw [show 4 * (k + 1) = 4 * k + 4 from by omega]; exact hg, ⟨z, hz, hg2⟩, hb⟩
     case measure => simp [intOf]; omega
  ·obtain rfl : k = 4 := by omega
   rw [fin.out] at hg
   go_wp2_with (first | go_skip | (refine ld_row 29 _ rfl rfl _ rfl _ _ _ _ hg Try.underlying29 rfl info30 ?_) | (refine st_row 29 _ _ rfl rfl _ rfl _ rfl _ _ hg2 info30 hz (hc_one _ _ rfl) ?_; intro w' hr hgr hsz'))
   refine bodyPost_ret (results_house rfl _ _ _ _ _ rfl hr) rfl ⟨rfl, ?_⟩
   exact hb.grown hgr hsz (fun k hk => by cases hk; omega)
end Go.Proofs.Ytggfdkkhlokmlab


