/- What is written of a world, and what of a bank is left. -/
import Derived.Test.YtggfdkkhlokmlabBankAt
import Derived.Test.YtggfdkkhlokmlabCMem
namespace Go.Proofs.Ytggfdkkhlokmlab
open Go.RowKit
/-- Of the blocks of w only those of av are written. -/
structure Only (av : Nat → Prop) (w w' : World) : Prop where
 os : w'.os = w.os
 tape : w'.tape = w.tape
 output : w'.output = w.output
 size : w.heap.size ≤ w'.heap.size
 block : ∀ b, b < w.heap.size → ¬ av b → w'.heap[b]? = w.heap[b]?
section
variable {av av' : Nat → Prop} {w w1 w' : World} {B : Nat}
theorem Only.refl (av : Nat → Prop) (w : World) : Only av w w := ⟨rfl, rfl, rfl, Nat.le_refl _, fun _ _ _ => rfl⟩
theorem Only.drew (h : Only av w w') : Only av w w'.drew := ⟨h.os, h.tape, h.output, h.size, h.block⟩
theorem Only.trans (h : Only av w w1) (k : Only av w1 w') : Only av w w' :=
 ⟨k.os.trans h.os, k.tape.trans h.tape, k.output.trans h.output, Nat.le_trans h.size k.size, fun b hb ha => (k.block b (Nat.lt_of_lt_of_le hb h.size) ha).trans (h.block b hb ha)⟩
theorem Only.mono (h : Only av w w') (i : ∀ b, b < w.heap.size → av b → av' b) : Only av' w w' := ⟨h.os, h.tape, h.output, h.size, fun b hb ha => h.block b hb fun x => ha (i b hb x)⟩
theorem only_below (h : Below B w w') : Only (fun b => B ≤ b) w w' := ⟨h.os, h.tape, h.output, h.size, fun b _ ha => h.block b (by omega)⟩
theorem only_new (h : Below w.heap.size w w') : Only av w w' := (only_below h).mono fun b hb ha => by omega
theorem only_grown {x : Option Nat} (h : w.grownBy w' x) : Only (fun b => x = some b) w w' := ⟨h.os, h.tape, h.output, h.size, fun b hb ha => h.block b hb fun e => ha e.symm⟩
theorem Only.below (h : Only av w w') (hB : B ≤ w.heap.size) (ha : ∀ b, av b → B ≤ b) : Below B w w' := ⟨h.os, h.tape, h.output, h.size, fun k hk => h.block k (by omega) fun x => by have := ha k x; omega⟩
theorem only_set (g i : Nat) (v : Value) (w : World) : Only (fun b => b = g) w (w.setCell ⟨g, i, none⟩ v) :=
 ⟨rfl, rfl, rfl, by simp [World.setCell], fun b _ ha => heap_setCell_other _ _ _ _ ha⟩
/-- What is done behind new blocks alone. -/
theorem Only.more (h : Only av w w1) (k : Below w1.heap.size w1 w') : Only av w w' := h.trans (only_new k)
/-- What is written in a new block is no matter. -/
theorem Only.far (h : Only av w w1) {P : Nat → Prop} (k : Only P w1 w') (hP : ∀ b, P b → w.heap.size ≤ b) : Only av w w' :=
 ⟨k.os.trans h.os, k.tape.trans h.tape, k.output.trans h.output, Nat.le_trans h.size k.size, fun b hb ha => (k.block b (Nat.lt_of_lt_of_le hb h.size) (fun x => by have := hP b x; omega)).trans (h.block b hb ha)⟩
theorem Only.pays {a : Option Addr} {cap : Nat} {l : List Pay} (h : Only av w w') (hp : PaysAt w a cap l) (ha : 0 < l.length → ∀ b off s, a = some ⟨b, off, s⟩ → ¬ av b) : PaysAt w' a cap l :=
 ⟨hp.le, hp.capm, hp.room, hp.nil0, fun hl => let ⟨b, off, e, hbl, hc⟩ := hp.row hl
  ⟨b, off, e, Nat.lt_of_lt_of_le hbl h.size, fun i p hi j v hv => (World.cell?_of_block (h.block b hbl (ha hl b off none e))).trans (hc i p hi j v hv)⟩⟩
theorem Only.ints {base : Nat} {v : Value} {l : List Int} (h : Only av w w') (ho : OwnInts w base v l) (ha : ∀ x, v.ownBlock = some x → ¬ av x) : OwnInts w' base v l := by
 obtain ⟨⟨hlen, hv⟩, hroom⟩ := ho
 refine ⟨⟨hlen, ?_⟩, hroom⟩
 rcases hv with h0 | ⟨g', cap, cur, rfl, hb', hg', hrest⟩
 ·exact .inl h0
 ·exact .inr ⟨g', cap, cur, rfl, hb', (h.block _ (hlt hg') (ha g' rfl)).trans hg', hrest⟩
/-- A bank whose blocks are not written. -/
theorem BankAt.only {p : Nat} {K : Bk} (k : BankAt w p av K) (h : Only av w w') (hp : ¬ av p) : BankAt w' p av K := k.apart h.size h.block hp
/-- All new blocks are none of the bank's. -/
theorem BankAt.fresh {p : Nat} {K : Bk} (k : BankAt w p av K) : BankAt w p (fun b => av b ∨ w.heap.size ≤ b) K := by
 obtain ⟨a, cap, h1, h2, h3⟩ := k.box
 refine ⟨⟨a, cap, h1, h2, fun hl b off s e => ⟨(h3 hl b off s e).1, fun h4 => ?_⟩⟩⟩
 rcases h4 with h4 | h4
 ·exact (h3 hl b off s e).2 h4
 ·obtain ⟨b', off', e', hbl, _⟩ := h2.row hl
  rw [e] at e'; cases e'; omega
theorem BankAt.lt {p : Nat} {K : Bk} (k : BankAt w p av K) : p < w.heap.size := let ⟨_, _, h1, _⟩ := k.box; hlt h1
end
/-- A step that writes where something may be written, or in a new block. -/
theorem Only.step {av : Nat → Prop} {w w1 w' : World} {P : Nat → Prop} (h : Only av w w1) (k : Only P w1 w') (hP : ∀ b, P b → av b ∨ w.heap.size ≤ b) : Only av w w' :=
 ⟨k.os.trans h.os, k.tape.trans h.tape, k.output.trans h.output, Nat.le_trans h.size k.size, fun b hb ha => (k.block b (Nat.lt_of_lt_of_le hb h.size) (fun x => by
  rcases hP b x with h1 | h1
  ·exact ha h1
  ·omega)).trans (h.block b hb ha)⟩
end Go.Proofs.Ytggfdkkhlokmlab


