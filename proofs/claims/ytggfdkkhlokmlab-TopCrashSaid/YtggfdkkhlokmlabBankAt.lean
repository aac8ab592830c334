/- A bank in memory. -/
import Derived.Laws.CopyRow
import Derived.Test.YtggfdkkhlokmlabCPln
import Derived.Test.YtggfdkkhlokmlabCBk2
import Derived.Test.YtggfdkkhlokmlabCMem
namespace Go.Proofs.Ytggfdkkhlokmlab
open Go.RowKit
section
variable {P : Program} {ops : Array Oper} {rest : List Oper} {o : Oper} {a : Act} {w : World} {Q : Exit → Act → World → Prop}
/-- A struct written over the head of a block. -/
theorem st_head (ty : TypeId) (x y : Operand) (ho : o.op = .store ty x y) (hw : Region.wanted o (yielded ops a.tmps) = true) (g : Nat) (hx : a.eval x = .pointer (some ⟨g, 0, none⟩))
  (cells : Array Value) (hy : a.eval y = .agg cells) (t : TypeId) (old new : Array Value) (hg : w.heap[g]? = some (.cells old t (0, 0))) (hi : (P.info? ty).map (·.size) = some cells.size)
  (hs : cells.size ≤ old.size) (hn : (cells.toList ++ old.toList.drop cells.size).toArray = new) (h1 : cells.all (·.oneCell') = true)
  (h : ∀ w' : World, w'.heap[g]? = some (.cells new t (0, 0)) → w.grownBy w' (some g) → w'.heap.size = w.heap.size → wpList P ops Q rest (a.put o.dst undef) w') : wpList P ops Q (o :: rest) a w :=
 BigFrame.wpList_want hw fun K hK => by
  subst hn
  have hst := run_storeCells_at P g 0 t cells.toList 0 old w hg (by simpa using hs) (fun v hv => (Array.all_eq_true_iff_forall_mem.1 h1) v (by simpa using hv))
  simp only [Nat.add_zero, List.take_zero, List.nil_append, Nat.zero_add, Array.length_toList] at hst
  have hr : (storeVar ty ⟨g, 0, none⟩ (.agg cells)).run P w = .ok () (w.setRow g (cells.toList ++ old.toList.drop cells.size).toArray) := by
   cases hq : P.info? ty with
   | none => simp [hq] at hi
   | some i =>
    have hs2 : cells.size = i.size := by simp [hq] at hi; omega
    simp [storeVar, sizeOf, typeInfo, hq, Value.cells, hs2, hst]
  unfold Oper.wp execOp
  simp only [ho, hx, hy, Instr.storeAt, Instr.sureAddr, Sem.run_bind, Sem.run_pure, Result.andThen_ok, hr]
  refine hK _ _ (h _ (setRow_heap w g old _ t _ hg) ⟨rfl, rfl, rfl, by simp, fun k _ hk => setRow_other w g k _ (fun e => hk (by rw [e]))⟩ (by simp))
end
/-- The cells of a bank. -/
def bc (h : Hs) (s : Value) (t : List UInt8) (d : Bool) (f n : Int) : Array Value := hc h s ++ #[.string (str t), .bool d, .int .i64 f, .int .i64 n]
section
variable (h : Hs) (s : Value) (t : List UInt8) (d : Bool) (f n : Int)
theorem bc_size : (bc h s t d f n).size = 46 := by simp [bc, hc_size]
theorem bc_h : ∀ j v, (hc h s)[j]? = some v → (bc h s t d f n)[0 + j]? = some v := fun j v hv => by
 rw [Nat.zero_add, bc, Array.getElem?_append_left (Array.getElem?_eq_some_iff.1 hv).1]; exact hv
theorem bc_at (k : Nat) : (bc h s t d f n)[42 + k]? = #[Value.string (str t), .bool d, .int .i64 f, .int .i64 n][k]? := by
 rw [bc, Array.getElem?_append_right (by rw [hc_size]; omega), hc_size]; congr 1; omega
theorem bc_42 : (bc h s t d f n)[42]? = some (.string (str t)) := bc_at h s t d f n 0
theorem bc_43 : (bc h s t d f n)[43]? = some (.bool d) := bc_at h s t d f n 1
theorem bc_44 : (bc h s t d f n)[44]? = some (.int .i64 f) := bc_at h s t d f n 2
theorem bc_45 : (bc h s t d f n)[45]? = some (.int .i64 n) := bc_at h s t d f n 3
theorem bc_set (k : Nat) (v : Value) : (bc h s t d f n).setIfInBounds (42 + k) v = hc h s ++ #[Value.string (str t), .bool d, .int .i64 f, .int .i64 n].setIfInBounds k v := by
 rw [bc, Array.setIfInBounds_append_right (by rw [hc_size]; omega), hc_size]; congr 2; omega
theorem bc_setText (t' : List UInt8) : (bc h s t d f n).setIfInBounds 42 (.string (str t')) = bc h s t' d f n := bc_set h s t d f n 0 _
theorem bc_setDown (d' : Bool) : (bc h s t d f n).setIfInBounds 43 (.bool d') = bc h s t d' f n := bc_set h s t d f n 1 _
theorem bc_setFail (f' : Int) : (bc h s t d f n).setIfInBounds 44 (.int .i64 f') = bc h s t d f' n := bc_set h s t d f n 2 _
theorem bc_setActs (n' : Int) : (bc h s t d f n).setIfInBounds 45 (.int .i64 n') = bc h s t d f n' := bc_set h s t d f n 3 _
theorem bc_head (h' : Hs) (s' : Value) : ((hc h' s').toList ++ (bc h s t d f n).toList.drop (hc h' s').size).toArray = bc h' s' t d f n := by
 rw [hc_size, bc, Array.toList_append, List.drop_append_of_le_length (by simp [hc_size]), List.drop_of_length_le (by simp [hc_size])]
 simp [bc]
end
/-- The bank B lies in block p; its payments lie neither there nor in a block of av. -/
structure BankAt (w : World) (p : Nat) (av : Nat → Prop) (B : Bk) : Prop where
 box : ∃ a cap, w.heap[p]? = some (.cells (bc B.h (.slice a B.l.length cap) B.text B.down B.fail B.acts) 83 (0, 0)) ∧ PaysAt w a cap B.l ∧ (0 < B.l.length → ∀ b off s, a = some ⟨b, off, s⟩ → b ≠ p ∧ ¬ av b)
theorem BankAt.below {w w' : World} {p : Nat} {av : Nat → Prop} {B : Bk} (k : BankAt w p av B) (hb : Below w.heap.size w w') : BankAt w' p av B :=
 let ⟨a, cap, h1, h2, h3⟩ := k.box
 ⟨⟨a, cap, hkeep hb h1, h2.below hb, h3⟩⟩
theorem BankAt.mono {w : World} {p : Nat} {av av' : Nat → Prop} {B : Bk} (k : BankAt w p av B) (h : ∀ x, av' x → av x) : BankAt w p av' B :=
 let ⟨a, cap, h1, h2, h3⟩ := k.box
 ⟨⟨a, cap, h1, h2, fun hl b off s e => ⟨(h3 hl b off s e).1, fun h4 => (h3 hl b off s e).2 (h b h4)⟩⟩⟩
/-- Blocks that are written are none of the bank's. -/
theorem BankAt.apart {w w' : World} {p : Nat} {av : Nat → Prop} {B : Bk} (k : BankAt w p av B) (hs : w.heap.size ≤ w'.heap.size) (hb : ∀ b, b < w.heap.size → ¬ av b → w'.heap[b]? = w.heap[b]?) (hp : ¬ av p) : BankAt w' p av B := by
 obtain ⟨a, cap, h1, h2, h3⟩ := k.box
 refine ⟨⟨a, cap, (hb p (hlt h1) hp).trans h1, ⟨h2.le, h2.capm, h2.room, h2.nil0, fun hl => ?_⟩, h3⟩⟩
 obtain ⟨b, off, e, hbl, hc⟩ := h2.row hl
 exact ⟨b, off, e, by omega, fun i q hq j v hv => (World.cell?_of_block (hb b hbl (h3 hl b off none e).2)).trans (hc i q hq j v hv)⟩
end Go.Proofs.Ytggfdkkhlokmlab


