/- How a house, its payments, a list of ints and a set of ints lie in memory; small laws on worlds. -/
import Derived.WalkKit
import Derived.WalkSmall
import Derived.Lib.Hide
import Derived.Deep.WholeRow
namespace Go.Proofs.Ytggfdkkhlokmlaa
open Go.RowKit

/-! ### numbers -/
/-- Is n from lo to hi? -/
def sm (lo n hi : Int) : Bool := decide (lo ≤ n ∧ n ≤ hi)
theorem sm_yes {lo n hi : Int} (h : lo ≤ n ∧ n ≤ hi) : sm lo n hi = true := decide_eq_true h
theorem sm_true {lo n hi : Int} (h : sm lo n hi = true) : lo ≤ n ∧ n ≤ hi := of_decide_eq_true h
theorem sm_false {lo n hi : Int} (h : sm lo n hi = false) : ¬ (lo ≤ n ∧ n ≤ hi) := of_decide_eq_false h
theorem four {i : Int} (h : 0 ≤ i ∧ i < 4) : i = 0 ∨ i = 1 ∨ i = 2 ∨ i = 3 := by omega

/-! ### worlds -/
theorem hkeep {w w1 : World} {b : Nat} {o : Obj} (hb : Below w.heap.size w w1) (h : w.heap[b]? = some o) : w1.heap[b]? = some o :=
  (hb.block b (Array.getElem?_eq_some_iff.1 h).1).trans h
theorem hlt {w : World} {b : Nat} {o : Obj} (h : w.heap[b]? = some o) : b < w.heap.size := (Array.getElem?_eq_some_iff.1 h).1
theorem hnew (w : World) (o : Obj) : (w.alloc o).heap[w.heap.size]? = some o := heap_alloc_new w o
theorem hold {w : World} {b : Nat} {o : Obj} (h : w.heap[b]? = some o) (o' : Obj) : (w.alloc o').heap[b]? = some o := by
  rw [Below.heap_alloc w o' b (hlt h)]; exact h
theorem hdrew {w : World} {b : Nat} {o : Obj} (h : w.heap[b]? = some o) (n : Nat) : (w.drewN n).heap[b]? = some o := h
theorem cells_at {w : World} {b : Nat} {cs : Array Value} {t : TypeId} (h : w.heap[b]? = some (.cells cs t (0, 0))) : ∀ o : Nat, w.cell? ⟨b, o, none⟩ = cs[o]? := fun o => cell_of_row w b o cs t (0, 0) h
theorem bcell {W w1 : World} (hb : Below W.heap.size W w1) : (∀ b o, b < W.heap.size → w1.cell? ⟨b, o, none⟩ = W.cell? ⟨b, o, none⟩) ∧ (∀ b o, b < W.heap.size → w1.frozen? ⟨b, o, none⟩ = W.frozen? ⟨b, o, none⟩) :=
  ⟨fun b o h => hb.cell (p := ⟨b, o, none⟩) h, fun b o h => hb.frozen (p := ⟨b, o, none⟩) h⟩

section
variable {P : Program} {ops : Array Oper} {rest : List Oper} {o : Oper} {a : Act} {w : World} {Q : Exit → Act → World → Prop}
/-- A whole struct or array, read. -/
theorem ld_row (ty : TypeId) (x : Operand) (ho : o.op = .load ty x) (hw : Region.wanted o (yielded ops a.tmps) = true)
    (g : Nat) (hx : a.eval x = .pointer (some ⟨g, 0, none⟩)) (t : TypeId) (cs : Array Value) (fr : Nat × Nat) (d : TypeDesc) (hg : w.heap[g]? = some (.cells cs t fr))
    (hu : P.underlying ty = some d) (hd : (match d with | .struct _ | .array _ _ => true | _ => false) = true) (hi : (P.info? ty).map (·.size) = some cs.size)
    (h : wpList P ops Q rest (a.put o.dst (.agg cs)) w) : wpList P ops Q (o :: rest) a w :=
  BigFrame.wpList_want hw fun _ hK => wp_load_row ty x ho g hx t cs fr d hg hu hd hi (hK _ _ h)

theorem run_load_mid (w : World) (g off : Nat) (t ty : TypeId) (cs part : Array Value) (fr : Nat × Nat) (d : TypeDesc) (hg : w.heap[g]? = some (.cells cs t fr))
    (hu : P.underlying ty = some d) (hd : (match d with | .struct _ | .array _ _ => true | _ => false) = true) (hi : (P.info? ty).map (·.size) = some part.size) (hp : ∀ j v, part[j]? = some v → cs[off + j]? = some v) :
    (loadVar ty ⟨g, off, none⟩).run P w = .ok (.agg part) w := by
  have hl : (loadCells ⟨g, off, none⟩ part.toList.length).run P w = .ok part.toList.toArray w :=
    run_loadCells_list (P := P) w ⟨g, off, none⟩ part.toList (fun j v hv => by
      have hadd : (⟨g, off, none⟩ : Addr).add j = ⟨g, off + j, none⟩ := by unfold Addr.add; split <;> simp_all
      rw [hadd, cell_of_row w g (off + j) cs t fr hg]
      exact hp j v (by simpa using hv))
  cases hq : P.info? ty with
  | none => simp [hq] at hi
  | some i =>
    have hs : i.size = part.size := by simpa [hq] using hi
    have hagg : (isAgg ty).run P w = .ok true w := by
      unfold isAgg
      rw [Sem.run_bind, run_underlying hu w]
      cases d <;> simp_all
    simp only [Array.length_toList, Array.toArray_toList] at hl
    simp [loadVar, Sem.run_bind, hagg, sizeOf, typeInfo, hq, hs, hl]

/-- A struct or an array inside a block, read. -/
theorem ld_mid (ty : TypeId) (x : Operand) (ho : o.op = .load ty x) (hw : Region.wanted o (yielded ops a.tmps) = true)
    (g off : Nat) (hx : a.eval x = .pointer (some ⟨g, off, none⟩)) (t : TypeId) (cs part : Array Value) (fr : Nat × Nat) (d : TypeDesc) (hg : w.heap[g]? = some (.cells cs t fr))
    (hu : P.underlying ty = some d) (hd : (match d with | .struct _ | .array _ _ => true | _ => false) = true) (hi : (P.info? ty).map (·.size) = some part.size) (hp : ∀ j v, part[j]? = some v → cs[off + j]? = some v)
    (h : wpList P ops Q rest (a.put o.dst (.agg part)) w) : wpList P ops Q (o :: rest) a w :=
  BigFrame.wpList_want hw fun K hK => by
    unfold Oper.wp execOp
    simp only [ho, hx, Instr.loadAt, Instr.sureAddr, Sem.run_bind, Sem.run_pure, Result.andThen_ok, run_load_mid w g off t ty cs part fr d hg hu hd hi hp]
    exact hK _ _ h

/-- A struct or an array in memory, told cell by cell, read. -/
theorem ld_cells (ty : TypeId) (x : Operand) (ho : o.op = .load ty x) (hw : Region.wanted o (yielded ops a.tmps) = true)
    (g off : Nat) (hx : a.eval x = .pointer (some ⟨g, off, none⟩)) (part : Array Value) (d : TypeDesc)
    (hu : P.underlying ty = some d) (hd : (match d with | .struct _ | .array _ _ => true | _ => false) = true) (hi : (P.info? ty).map (·.size) = some part.size) (hp : ∀ j v, part[j]? = some v → w.cell? ⟨g, off + j, none⟩ = some v)
    (h : wpList P ops Q rest (a.put o.dst (.agg part)) w) : wpList P ops Q (o :: rest) a w :=
  BigFrame.wpList_want hw fun K hK => by
    have hr : (loadVar ty ⟨g, off, none⟩).run P w = .ok (.agg part) w := by
      have hl : (loadCells ⟨g, off, none⟩ part.toList.length).run P w = .ok part.toList.toArray w :=
        run_loadCells_list (P := P) w ⟨g, off, none⟩ part.toList (fun j v hv => by
          have hadd : (⟨g, off, none⟩ : Addr).add j = ⟨g, off + j, none⟩ := by unfold Addr.add; split <;> simp_all
          rw [hadd]
          exact hp j v (by simpa using hv))
      cases hq : P.info? ty with
      | none => simp [hq] at hi
      | some i =>
        have hs : i.size = part.size := by simpa [hq] using hi
        have hagg : (isAgg ty).run P w = .ok true w := by
          unfold isAgg
          rw [Sem.run_bind, run_underlying hu w]
          cases d <;> simp_all
        simp only [Array.length_toList, Array.toArray_toList] at hl
        simp [loadVar, Sem.run_bind, hagg, sizeOf, typeInfo, hq, hs, hl]
    unfold Oper.wp execOp
    simp only [ho, hx, Instr.loadAt, Instr.sureAddr, Sem.run_bind, Sem.run_pure, Result.andThen_ok, hr]
    exact hK _ _ h

/-- A struct or an array written into the block that was made last. -/
theorem st_new {W : World} (ty : TypeId) (x y : Operand) (ho : o.op = .store ty x y) (w : World) (t : TypeId) (old : Array Value) (hW : W = w.alloc (.cells old t)) (hw : Region.wanted o (yielded ops a.tmps) = true) (hx : a.eval x = .pointer (some ⟨w.heap.size, 0, none⟩))
    (cells : Array Value) (hy : a.eval y = .agg cells) (hi : (P.info? ty).map (·.size) = some cells.size)
    (hs : old.size = cells.size) (h1 : cells.all (·.oneCell') = true)
    (h : wpList P ops Q rest (a.put o.dst undef) (w.alloc (.cells cells t))) : wpList P ops Q (o :: rest) a W :=
  BigFrame.wpList_want hw fun K hK => by
    subst hW
    unfold Oper.wp execOp
    have hr := run_storeVar_row (P := P) (w.alloc (.cells old t)) w.heap.size t ty old cells (hnew _ _) hi hs h1
    have he : (w.alloc (.cells old t)).setRow w.heap.size cells = w.alloc (.cells cells t) := World.setRow_alloc_new w old cells t
    rw [he] at hr
    simp only [ho, hx, hy, Instr.storeAt, Instr.sureAddr, Sem.run_bind, Sem.run_pure, Result.andThen_ok, hr]
    exact hK _ _ h

/-- A struct or an array that fills a block of the call's own, written: the world behind it is told by what its blocks hold. -/
theorem st_row (ty : TypeId) (x y : Operand) (ho : o.op = .store ty x y) (hw : Region.wanted o (yielded ops a.tmps) = true) (g : Nat) (hx : a.eval x = .pointer (some ⟨g, 0, none⟩))
    (cells : Array Value) (hy : a.eval y = .agg cells) (t : TypeId) (old : Array Value) (hg : w.heap[g]? = some (.cells old t (0, 0))) (hi : (P.info? ty).map (·.size) = some cells.size)
    (hs : old.size = cells.size) (h1 : cells.all (·.oneCell') = true)
    (h : ∀ w' : World, w'.heap[g]? = some (.cells cells t (0, 0)) → w.grownBy w' (some g) → w'.heap.size = w.heap.size → wpList P ops Q rest (a.put o.dst undef) w') : wpList P ops Q (o :: rest) a w :=
  BigFrame.wpList_want hw fun K hK => by
    unfold Oper.wp execOp
    have hr := run_storeVar_row (P := P) w g t ty old cells hg hi hs h1
    simp only [ho, hx, hy, Instr.storeAt, Instr.sureAddr, Sem.run_bind, Sem.run_pure, Result.andThen_ok, hr]
    refine hK _ _ (h _ (setRow_heap w g old cells t _ hg) ⟨rfl, rfl, rfl, by simp, fun k _ hk => setRow_other w g k cells (fun e => hk (by rw [e]))⟩ (by simp))
end

/-! ### a house -/
/-- A house but for its payments. -/
structure Hs where
  has : Int → Int
  cr : Int → Int
  sent : Int → Int → Int
  lim : Int → Int → Int
  next : Int
/-- The cells of a house whose payments lie in the slice s. -/
def hc (h : Hs) (s : Value) : Array Value :=
  #[.int .i64 (h.has 0), .int .i64 (h.cr 0), .int .i64 (h.has 1), .int .i64 (h.cr 1), .int .i64 (h.has 2), .int .i64 (h.cr 2), .int .i64 (h.has 3), .int .i64 (h.cr 3),
    .int .i64 (h.sent 0 0), .int .i64 (h.sent 0 1), .int .i64 (h.sent 0 2), .int .i64 (h.sent 0 3), .int .i64 (h.sent 1 0), .int .i64 (h.sent 1 1), .int .i64 (h.sent 1 2), .int .i64 (h.sent 1 3),
    .int .i64 (h.sent 2 0), .int .i64 (h.sent 2 1), .int .i64 (h.sent 2 2), .int .i64 (h.sent 2 3), .int .i64 (h.sent 3 0), .int .i64 (h.sent 3 1), .int .i64 (h.sent 3 2), .int .i64 (h.sent 3 3),
    .int .i64 (h.lim 0 0), .int .i64 (h.lim 0 1), .int .i64 (h.lim 0 2), .int .i64 (h.lim 0 3), .int .i64 (h.lim 1 0), .int .i64 (h.lim 1 1), .int .i64 (h.lim 1 2), .int .i64 (h.lim 1 3),
    .int .i64 (h.lim 2 0), .int .i64 (h.lim 2 1), .int .i64 (h.lim 2 2), .int .i64 (h.lim 2 3), .int .i64 (h.lim 3 0), .int .i64 (h.lim 3 1), .int .i64 (h.lim 3 2), .int .i64 (h.lim 3 3),
    s, .int .i64 h.next]
def accs (h : Hs) : Array Value := #[.int .i64 (h.has 0), .int .i64 (h.cr 0), .int .i64 (h.has 1), .int .i64 (h.cr 1), .int .i64 (h.has 2), .int .i64 (h.cr 2), .int .i64 (h.has 3), .int .i64 (h.cr 3)]
def sents (h : Hs) : Array Value := #[.int .i64 (h.sent 0 0), .int .i64 (h.sent 0 1), .int .i64 (h.sent 0 2), .int .i64 (h.sent 0 3), .int .i64 (h.sent 1 0), .int .i64 (h.sent 1 1), .int .i64 (h.sent 1 2), .int .i64 (h.sent 1 3),
    .int .i64 (h.sent 2 0), .int .i64 (h.sent 2 1), .int .i64 (h.sent 2 2), .int .i64 (h.sent 2 3), .int .i64 (h.sent 3 0), .int .i64 (h.sent 3 1), .int .i64 (h.sent 3 2), .int .i64 (h.sent 3 3)]
def lims (h : Hs) : Array Value := #[.int .i64 (h.lim 0 0), .int .i64 (h.lim 0 1), .int .i64 (h.lim 0 2), .int .i64 (h.lim 0 3), .int .i64 (h.lim 1 0), .int .i64 (h.lim 1 1), .int .i64 (h.lim 1 2), .int .i64 (h.lim 1 3),
    .int .i64 (h.lim 2 0), .int .i64 (h.lim 2 1), .int .i64 (h.lim 2 2), .int .i64 (h.lim 2 3), .int .i64 (h.lim 3 0), .int .i64 (h.lim 3 1), .int .i64 (h.lim 3 2), .int .i64 (h.lim 3 3)]
theorem hc_size (h : Hs) (s : Value) : (hc h s).size = 42 := rfl
theorem accs_size (h : Hs) : (accs h).size = 8 := rfl
theorem sents_size (h : Hs) : (sents h).size = 16 := rfl
theorem lims_size (h : Hs) : (lims h).size = 16 := rfl
theorem hc_has (h : Hs) (s : Value) (i : Int) (h0 : 0 ≤ i) (h1 : i < 4) : (hc h s)[i.toNat * 2]? = some (.int .i64 (h.has i)) := by
  rcases four ⟨h0, h1⟩ with rfl | rfl | rfl | rfl <;> rfl
theorem hc_cr (h : Hs) (s : Value) (i : Int) (h0 : 0 ≤ i) (h1 : i < 4) : (hc h s)[i.toNat * 2 + 1]? = some (.int .i64 (h.cr i)) := by
  rcases four ⟨h0, h1⟩ with rfl | rfl | rfl | rfl <;> rfl
theorem hc_sent (h : Hs) (s : Value) (i k : Int) (h0 : 0 ≤ i) (h1 : i < 4) (k0 : 0 ≤ k) (k1 : k < 4) : (hc h s)[8 + i.toNat * 4 + k.toNat]? = some (.int .i64 (h.sent i k)) := by
  rcases four ⟨h0, h1⟩ with rfl | rfl | rfl | rfl <;> rcases four ⟨k0, k1⟩ with rfl | rfl | rfl | rfl <;> rfl
theorem hc_lim (h : Hs) (s : Value) (i k : Int) (h0 : 0 ≤ i) (h1 : i < 4) (k0 : 0 ≤ k) (k1 : k < 4) : (hc h s)[24 + i.toNat * 4 + k.toNat]? = some (.int .i64 (h.lim i k)) := by
  rcases four ⟨h0, h1⟩ with rfl | rfl | rfl | rfl <;> rcases four ⟨k0, k1⟩ with rfl | rfl | rfl | rfl <;> rfl
theorem hc_hasN (h : Hs) (s : Value) (i : Nat) (h1 : i < 4) : (hc h s)[i * 2]? = some (.int .i64 (h.has i)) := hc_has h s i (by omega) (by omega)
theorem hc_crN (h : Hs) (s : Value) (i : Nat) (h1 : i < 4) : (hc h s)[i * 2 + 1]? = some (.int .i64 (h.cr i)) := hc_cr h s i (by omega) (by omega)
theorem hc_sentN (h : Hs) (s : Value) (i k : Nat) (h1 : i < 4) (k1 : k < 4) : (hc h s)[8 + i * 4 + k]? = some (.int .i64 (h.sent i k)) := hc_sent h s i k (by omega) (by omega) (by omega) (by omega)
theorem hc_limN (h : Hs) (s : Value) (i k : Nat) (h1 : i < 4) (k1 : k < 4) : (hc h s)[24 + i * 4 + k]? = some (.int .i64 (h.lim i k)) := hc_lim h s i k (by omega) (by omega) (by omega) (by omega)
theorem hc_pays (h : Hs) (s : Value) : (hc h s)[40]? = some s := rfl
theorem hc_next (h : Hs) (s : Value) : (hc h s)[41]? = some (.int .i64 h.next) := rfl
theorem hc_accs (h : Hs) (s : Value) : ∀ j v, (accs h)[j]? = some v → (hc h s)[0 + j]? = some v := by
  intro j v hv
  have hj : j < 8 := (Array.getElem?_eq_some_iff.1 hv).1
  rcases j with _ | _ | _ | _ | _ | _ | _ | _ | j <;> first | exact hv | omega
theorem hc_sents (h : Hs) (s : Value) : ∀ j v, (sents h)[j]? = some v → (hc h s)[8 + j]? = some v := by
  intro j v hv
  have hj : j < 16 := (Array.getElem?_eq_some_iff.1 hv).1
  rcases j with _ | _ | _ | _ | _ | _ | _ | _ | _ | _ | _ | _ | _ | _ | _ | _ | j <;> first | exact hv | omega
theorem hc_lims (h : Hs) (s : Value) : ∀ j v, (lims h)[j]? = some v → (hc h s)[24 + j]? = some v := by
  intro j v hv
  have hj : j < 16 := (Array.getElem?_eq_some_iff.1 hv).1
  rcases j with _ | _ | _ | _ | _ | _ | _ | _ | _ | _ | _ | _ | _ | _ | _ | _ | j <;> first | exact hv | omega
theorem hc_one (h : Hs) (s : Value) (hs : s.oneCell' = true) : (hc h s).all (·.oneCell') = true := by
  have hi : ∀ k n, (Value.int k n).oneCell' = true := fun _ _ => rfl
  simp [hc, hs, hi]

/-! ### one payment -/
structure Pay where
  frm : Int
  to : Int
  amt : Int
  cls : Int
  st : Int
  seq : Int
deriving DecidableEq, Inhabited
def pc (p : Pay) : Array Value := #[.int .i64 p.frm, .int .i64 p.to, .int .i64 p.amt, .int .i64 p.cls, .int .i64 p.st, .int .i64 p.seq]
theorem pc_size (p : Pay) : (pc p).size = 6 := rfl
theorem pc_0 (p : Pay) : (pc p)[0]? = some (.int .i64 p.frm) := rfl
theorem pc_1 (p : Pay) : (pc p)[1]? = some (.int .i64 p.to) := rfl
theorem pc_2 (p : Pay) : (pc p)[2]? = some (.int .i64 p.amt) := rfl
theorem pc_3 (p : Pay) : (pc p)[3]? = some (.int .i64 p.cls) := rfl
theorem pc_4 (p : Pay) : (pc p)[4]? = some (.int .i64 p.st) := rfl
theorem pc_5 (p : Pay) : (pc p)[5]? = some (.int .i64 p.seq) := rfl
theorem pc_one (p : Pay) : (pc p).all (·.oneCell') = true := by simp [pc, Value.oneCell']

/-- The slice s lies in memory as the payments l. -/
structure PaysAt (w : World) (a : Option Addr) (cap : Nat) (l : List Pay) : Prop where
  le : l.length ≤ cap
  capm : cap ≤ maxLen
  room : l.length * 48 ≤ 140737488355328
  nil0 : a = none → cap = 0
  row : 0 < l.length → ∃ b off, a = some ⟨b, off, none⟩ ∧ b < w.heap.size ∧ ∀ i p, l[i]? = some p → ∀ j v, (pc p)[j]? = some v → w.cell? ⟨b, off + (i * 6 + j), none⟩ = some v
/-- The slice s lies in memory as the ints l. -/
structure IntsAt (w : World) (a : Option Addr) (cap : Nat) (l : List Int) : Prop where
  le : l.length ≤ cap
  capm : cap ≤ maxLen
  room : l.length * 8 ≤ 140737488355328
  nil0 : a = none → cap = 0
  row : 0 < l.length → ∃ b off, a = some ⟨b, off, none⟩ ∧ b < w.heap.size ∧ ∀ i n, l[i]? = some n → w.cell? ⟨b, off + i, none⟩ = some (.int .i64 n)
theorem PaysAt.below {w w' : World} {a : Option Addr} {cap : Nat} {l : List Pay} (h : PaysAt w a cap l) (hb : Below w.heap.size w w') : PaysAt w' a cap l :=
  ⟨h.le, h.capm, h.room, h.nil0, fun hl => let ⟨b, off, ha, hbl, hc⟩ := h.row hl; ⟨b, off, ha, Nat.lt_of_lt_of_le hbl hb.size, fun i p hp j v hv => (hb.cell (p := ⟨b, _, none⟩) hbl).trans (hc i p hp j v hv)⟩⟩
theorem IntsAt.below {w w' : World} {a : Option Addr} {cap : Nat} {l : List Int} (h : IntsAt w a cap l) (hb : Below w.heap.size w w') : IntsAt w' a cap l :=
  ⟨h.le, h.capm, h.room, h.nil0, fun hl => let ⟨b, off, ha, hbl, hc⟩ := h.row hl; ⟨b, off, ha, Nat.lt_of_lt_of_le hbl hb.size, fun i n hn => (hb.cell (p := ⟨b, _, none⟩) hbl).trans (hc i n hn)⟩⟩
theorem PaysAt.alloc {w : World} {a : Option Addr} {cap : Nat} {l : List Pay} (h : PaysAt w a cap l) (o : Obj) : PaysAt (w.alloc o) a cap l := h.below ((Below.refl _ _).alloc (Nat.le_refl _) _)
theorem IntsAt.alloc {w : World} {a : Option Addr} {cap : Nat} {l : List Int} (h : IntsAt w a cap l) (o : Obj) : IntsAt (w.alloc o) a cap l := h.below ((Below.refl _ _).alloc (Nat.le_refl _) _)

/-- The cells of payments, one behind the other. -/
def flat (l : List Pay) : List Value := l.flatMap fun p => (pc p).toList
theorem flat_length : ∀ l : List Pay, (flat l).length = l.length * 6
  | [] => rfl
  | p :: l => by
    have := flat_length l
    simp only [flat, List.flatMap_cons, List.length_append, List.length_cons] at this ⊢
    rw [this]
    have h6 : (pc p).toList.length = 6 := rfl
    omega
theorem flat_get : ∀ (l : List Pay) (i : Nat) (p : Pay), l[i]? = some p → ∀ (j : Nat) (v : Value), (pc p)[j]? = some v → (flat l)[i * 6 + j]? = some v
  | [], i, p, h, _, _, _ => by simp at h
  | q :: l, 0, p, h, j, v, hv => by
    simp at h
    subst h
    have hj : j < 6 := (Array.getElem?_eq_some_iff.1 hv).1
    simp only [flat, List.flatMap_cons, Nat.zero_mul, Nat.zero_add]
    rw [List.getElem?_append_left (by exact hj)]
    simpa using hv
  | q :: l, i + 1, p, h, j, v, hv => by
    have ih := flat_get l i p (by simpa using h) j v hv
    simp only [flat, List.flatMap_cons]
    rw [List.getElem?_append_right (by show 6 ≤ _; omega)]
    have e : (i + 1) * 6 + j - (pc q).toList.length = i * 6 + j := by show (i + 1) * 6 + j - 6 = _; omega
    rw [e]
    exact ih
theorem flat_append (l k : List Pay) : flat (l ++ k) = flat l ++ flat k := by simp [flat]
theorem flat_one (l : List Pay) : ∀ u ∈ flat l, u.oneCell' = true := by
  intro u hu
  obtain ⟨p, _, hp⟩ := List.mem_flatMap.1 hu
  simp only [pc, List.mem_cons, List.not_mem_nil, or_false] at hp
  rcases hp with rfl | rfl | rfl | rfl | rfl | rfl <;> rfl
theorem PaysAt.cells {w : World} {b off cap : Nat} {l : List Pay} (h : PaysAt w (some ⟨b, off, none⟩) cap l) : ∀ j u, (flat l)[j]? = some u → w.cell? ((⟨b, off, none⟩ : Addr).add j) = some u := by
  intro j u hu
  have hj : j < (flat l).length := (List.getElem?_eq_some_iff.1 hu).1
  rw [flat_length] at hj
  have h0 : 0 < l.length := by omega
  obtain ⟨b', off', e, _, hc⟩ := h.row h0
  cases e
  have hadd : (⟨b, off, none⟩ : Addr).add j = ⟨b, off + j, none⟩ := by unfold Addr.add; split <;> simp_all
  have hi : j / 6 < l.length := by omega
  have hjj : j = j / 6 * 6 + j % 6 := by omega
  have hr : j % 6 < 6 := by omega
  have hv : (pc l[j / 6])[j % 6]? = some ((pc l[j / 6])[j % 6]'hr) := Array.getElem?_eq_getElem hr
  have := flat_get l (j / 6) _ (List.getElem?_eq_getElem hi) (j % 6) _ hv
  rw [← hjj, hu] at this
  cases this
  rw [hadd]
  have hc' := hc (j / 6) _ (List.getElem?_eq_getElem hi) (j % 6) _ hv
  rw [← hjj] at hc'
  exact hc'
/-- Payments in a row of the call's own. -/
def OwnPays (w : World) (base : Nat) (v : Value) (l : List Pay) : Prop := w.ownsRow base 36 6 v l.length (flat l) ∧ l.length * 48 ≤ 140737488355328
theorem OwnPays.at_ {w : World} {base : Nat} {v : Value} {l : List Pay} (h : OwnPays w base v l) : ∃ a cap, v = .slice a l.length cap ∧ PaysAt w a cap l ∧ (∀ b off s, a = some ⟨b, off, s⟩ → base ≤ b) := by
  obtain ⟨⟨hlen, hv⟩, hroom⟩ := h
  rcases hv with ⟨rfl, h0⟩ | ⟨g, cap, cur, rfl, hb, hg, hn, hc, hsz, htake⟩
  · refine ⟨none, 0, by rw [h0], ⟨by omega, by simp [maxLen], hroom, fun _ => rfl, fun h => absurd h (by omega)⟩, by simp⟩
  · refine ⟨some ⟨g, 0, none⟩, cap, rfl, ⟨hn, hc, hroom, by simp, fun _ => ⟨g, 0, rfl, hlt hg, fun i p hp j v hv => ?_⟩⟩, fun b off s e => by cases e; exact hb⟩
    have h1 := flat_get l i p hp j v hv
    rw [← htake] at h1
    have hlt : i * 6 + j < l.length * 6 := by
      have hi := (List.getElem?_eq_some_iff.1 hp).1
      have hj : j < 6 := (Array.getElem?_eq_some_iff.1 hv).1
      omega
    rw [List.getElem?_take_of_lt hlt] at h1
    rw [Nat.zero_add, cells_at hg]
    simpa using h1
theorem OwnPays.below {w w' : World} {base : Nat} {v : Value} {l : List Pay} (h : OwnPays w base v l) (hb : Below w.heap.size w w') : OwnPays w' base v l := by
  obtain ⟨⟨hlen, hv⟩, hroom⟩ := h
  refine ⟨⟨hlen, ?_⟩, hroom⟩
  rcases hv with h0 | ⟨g, cap, cur, rfl, hb', hg, hrest⟩
  · exact .inl h0
  · exact .inr ⟨g, cap, cur, rfl, hb', hkeep hb hg, hrest⟩
theorem OwnPays.one {w : World} {base : Nat} {v : Value} {l : List Pay} (h : OwnPays w base v l) : v.oneCell' = true := by
  obtain ⟨a, cap, rfl, _⟩ := h.at_
  rfl
theorem OwnPays.mono {w : World} {base base' : Nat} {v : Value} {l : List Pay} (h : OwnPays w base v l) (hb : base' ≤ base) : OwnPays w base' v l := by
  obtain ⟨⟨hlen, hv⟩, hroom⟩ := h
  refine ⟨⟨hlen, ?_⟩, hroom⟩
  rcases hv with h0 | ⟨g, cap, cur, rfl, hb', hrest⟩
  · exact .inl h0
  · exact .inr ⟨g, cap, cur, rfl, by omega, hrest⟩

/-! ### a set of ints (a map[int]bool that the call made) -/
/-- Block b is a map that holds true at each of xs, and nothing else. -/
def SeenAt (w : World) (b : Nat) (xs : List Int) : Prop :=
  ∃ es clock, w.heap[b]? = some (.map es clock) ∧ es.toList.map (fun e => (e.key, e.val)) = xs.map fun x => (Value.int .i64 x, Value.bool true)
theorem findNow_none (x : Int) : ∀ (es : List MapEntry) (xs : List Int) (i : Nat), es.map (fun e => (e.key, e.val)) = xs.map (fun x => (Value.int .i64 x, Value.bool true)) → x ∉ xs → Instr.findNow (.int .i64) (.int .i64 x) es i = some none
  | [], _, _, _, _ => rfl
  | e :: es, [], _, h, _ => by simp at h
  | e :: es, y :: ys, i, h, hx => by
    simp only [List.map_cons, List.cons.injEq, Prod.mk.injEq] at h
    have hne : (x == y) = false := by simp only [beq_eq_false_iff_ne]; intro e; exact hx (by simp [e])
    simp only [Instr.findNow, h.1.1, Instr.sameNow, ↓reduceIte, hne]
    exact findNow_none x es ys (i + 1) h.2 (fun hm => hx (by simp [hm]))
theorem findNow_some (x : Int) : ∀ (es : List MapEntry) (xs : List Int) (i : Nat), es.map (fun e => (e.key, e.val)) = xs.map (fun x => (Value.int .i64 x, Value.bool true)) → x ∈ xs → ∃ j, Instr.findNow (.int .i64) (.int .i64 x) es i = some (some (j, .bool true))
  | [], [], _, _, hx => by simp at hx
  | [], _ :: _, _, h, _ => by simp at h
  | e :: es, [], _, h, _ => by simp at h
  | e :: es, y :: ys, i, h, hx => by
    simp only [List.map_cons, List.cons.injEq, Prod.mk.injEq] at h
    by_cases hxy : x = y
    · subst hxy
      exact ⟨i, by simp [Instr.findNow, h.1.1, Instr.sameNow, h.1.2]⟩
    · have hne : (x == y) = false := by simpa using hxy
      simp only [Instr.findNow, h.1.1, Instr.sameNow, ↓reduceIte, hne]
      exact findNow_some x es ys (i + 1) h.2 (by simpa [hxy] using hx)

section
variable {P : Program} {w : World} {b : Nat} {xs : List Int}
theorem SeenAt.below {w' : World} (h : SeenAt w b xs) (hb : Below w.heap.size w w') : SeenAt w' b xs := by
  obtain ⟨es, clock, hh, he⟩ := h
  exact ⟨es, clock, hkeep hb hh, he⟩
theorem SeenAt.keep {w' : World} (h : SeenAt w b xs) (hb : w'.heap[b]? = w.heap[b]?) : SeenAt w' b xs := by
  obtain ⟨es, clock, hh, he⟩ := h
  exact ⟨es, clock, hb.trans hh, he⟩
theorem SeenAt.lt (h : SeenAt w b xs) : b < w.heap.size := by
  obtain ⟨es, clock, hh, he⟩ := h
  exact hlt hh
theorem SeenAt.made (w : World) : SeenAt (w.alloc (.map #[] 0)) w.heap.size [] := ⟨#[], 0, hnew _ _, rfl⟩
theorem checkKey_int {k : TypeId} (hk : P.underlying k = some (.int .i64)) (e : Bool) (n : Nat) (x : Int) : (Instr.checkKey e (n + 1) k (.int .i64 x)).run P w = .ok () w := by
  simp [Instr.checkKey, Sem.run_bind, run_underlying hk]
theorem SeenAt.look {t k e : TypeId} (h : SeenAt w b xs) (ht : P.underlying t = some (.map k e)) (hk : P.underlying k = some (.int .i64)) (_he : P.underlying e = some .bool) (hz : ∀ w, (zeroValue e).run P w = .ok (.bool false) w) (x : Int) :
    (Instr.lookup t (.map (some b)) (.int .i64 x) false).run P w = .ok (.bool (decide (x ∈ xs))) w := by
  obtain ⟨es, clock, hh, hm⟩ := h
  have hck : ∀ e' : Bool, (Instr.checkKey e' 10000 k (.int .i64 x)).run P w = .ok () w := fun e' => checkKey_int hk e' 9999 x
  by_cases hx : x ∈ xs
  · obtain ⟨j, hj⟩ := findNow_some x es.toList xs 0 hm hx
    simp [Instr.lookup, Sem.run_bind, run_underlying ht, MapKept.run_getObj_map hh, hck, Instr.findKey, run_underlying hk, hj, hx]
  · have hj := findNow_none x es.toList xs 0 hm hx
    simp [Instr.lookup, Sem.run_bind, run_underlying ht, MapKept.run_getObj_map hh, hck, Instr.findKey, run_underlying hk, hj, hx, hz]
theorem SeenAt.put {t k e : TypeId} (h : SeenAt w b xs) (ht : P.underlying t = some (.map k e)) (hk : P.underlying k = some (.int .i64)) (x : Int) (hx : x ∉ xs) :
    ∃ w', (Instr.mapUpdate t (.map (some b)) (.int .i64 x) (.bool true)).run P w = .ok () w' ∧ SeenAt w' b (xs ++ [x]) ∧ w.grownBy w' (some b) ∧ w'.heap.size = w.heap.size := by
  obtain ⟨es, clock, hh, hm⟩ := h
  have hck : ∀ e' : Bool, (Instr.checkKey e' 10000 k (.int .i64 x)).run P w = .ok () w := fun e' => checkKey_int hk e' 9999 x
  have hj := findNow_none x es.toList xs 0 hm hx
  refine ⟨{ w with heap := w.heap.setIfInBounds b (.map (es.push { key := .int .i64 x, val := .bool true, born := clock }) (clock + 1)) }, ?_, ?_, ?_, ?_⟩
  · simp [Instr.mapUpdate, Sem.run_bind, run_underlying ht, MapKept.run_getObj_map hh, hck, Instr.findKey, run_underlying hk, hj, setObj, Sem.run, hh]
  · refine ⟨es.push { key := .int .i64 x, val := .bool true, born := clock }, clock + 1, ?_, by simp [hm]⟩
    simp [hlt hh]
  · exact ⟨rfl, rfl, rfl, by simp, fun i _ hi => by simp only [Array.getElem?_setIfInBounds]; rw [if_neg (fun e => hi (by rw [e]))]⟩
  · simp
end
end Go.Proofs.Ytggfdkkhlokmlaa
