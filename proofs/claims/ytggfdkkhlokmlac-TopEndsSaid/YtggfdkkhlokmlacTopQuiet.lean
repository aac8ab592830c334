/- play with one that only looks on: all that was there stands as it was. -/
import Derived.Test.YtggfdkkhlokmlacTopSame
import Derived.Test.YtggfdkkhlokmlacTopMath2
namespace Go.Proofs.Ytggfdkkhlokmlac
open Go.RowKit
/-- Blocks below n stand as in W, and are none of the bank's. -/
def QuietJ (base : Nat) (W : World) (_ : Nat) (av : Nat → Prop) (w : World) : Prop := (∀ b, base ≤ b → b < W.heap.size → av b) ∧ (∀ b, b < W.heap.size → w.heap[b]? = W.heap[b]?) ∧ W.heap.size ≤ w.heap.size
theorem quiet_looksJ (base : Nat) (W : World) (l : List Deed) : Looks 14 #[] base (QuietJ base W) l where
  enter := fun args w => by kernel_rfl
  keep := fun i av av' w w' hJ hb ha hs => ⟨fun b h1 h2 => ha b (hJ.1 b h1 h2), fun b h => (hb b (by
    by_cases e : b < base
    · exact .inl e
    · exact .inr (hJ.1 b (by omega) h))).trans (hJ.2.1 b h), Nat.le_trans hJ.2.2 hs⟩
  look := fun i d p av v w1 _ _ hJ _ _ _ _ _ _ => (quiet_any _ d _ _ v w1).mono fun _ _ h => ⟨h.1, only_new h.2, fun b h1 h2 => .inl (hJ.1 b h1 h2), fun b hb => (h.2.block b (by have := hJ.2.2; omega)).trans (hJ.2.1 b hb), Nat.le_trans hJ.2.2 h.2.size⟩
/-- A bank that has played beside older memory: its blocks are new. -/
structure Played (base : Nat) (l : List Deed) (w w' : World) (p : Nat) (av : Nat → Prop) : Prop where
  bank : BankAt w' p av (Bs l (min l.length 80))
  new : w.heap.size ≤ p
  not : ¬ av p
  old : ∀ b, base ≤ b → b < w.heap.size → av b
  lt : ∀ b, av b → b < w'.heap.size
  below : Below w.heap.size w w'
theorem playQ_any (base : Nat) (l : List Deed) (a : Option Addr) (cap : Nat) (w : World) (hl : ActsAt w a cap l) (hlb : 0 < l.length → ∀ b off s, a = some ⟨b, off, s⟩ → b < base) (hbase : base ≤ w.heap.size) :
    Calls Try.prog 8 #[.slice a l.length cap, .func (.func 14) #[] #[]] w fun e w' => ∃ p av, e = .returned (.tuple #[.pointer (some ⟨p, 0, none⟩), .bool true]) ∧ Played base l w w' p av :=
  (play_any 14 #[] base (QuietJ base w) l a cap w hl hlb hbase (quiet_looksJ base w l) ⟨fun b h1 h2 => ⟨h1, h2⟩, fun _ _ => rfl, Nat.le_refl _⟩).mono fun e w' h => by
    obtain ⟨⟨p, av, rfl, hk, hJ, hp, hpa, hold, hav⟩, hb⟩ := h
    exact ⟨p, av, rfl, hk, hp, hpa, hold, fun b h => (hav b h).2, hb.os, hb.tape, hb.output, hJ.2.2, hJ.2.1⟩
/-- Two banks, of which none writes in the other. -/
structure Pair (w : World) (p q : Nat) (av av' : Nat → Prop) (K K' : Bk) : Prop where
  at1 : BankAt w p av K
  at2 : BankAt w q av' K'
  av1 : av q
  av2 : av' p
  no1 : ¬ av p
  no2 : ¬ av' q
  lt1 : ∀ b, av b → b < w.heap.size
  lt2 : ∀ b, av' b → b < w.heap.size
theorem pair_of {base : Nat} {l : List Deed} {w0 w w' : World} {p q : Nat} {av av' : Nat → Prop} (h : Played base l w0 w p av) (k : Played base l w w' q av') (hb : base ≤ w0.heap.size) :
    Pair w' p q (fun b => (av b ∨ w.heap.size ≤ b) ∧ b < w'.heap.size) av' (Bs l (min l.length 80)) (Bs l (min l.length 80)) where
  at1 := (h.bank.fresh.below k.below).mono fun _ x => x.1
  at2 := k.bank
  av1 := ⟨.inr k.new, k.bank.lt⟩
  av2 := k.old p (Nat.le_trans hb h.new) h.bank.lt
  no1 := fun x => x.1.elim h.not fun e => by have := h.bank.lt; omega
  no2 := k.not
  lt1 := fun _ x => x.2
  lt2 := k.lt
theorem Pair.swap {w : World} {p q : Nat} {av av' : Nat → Prop} {K K' : Bk} (h : Pair w p q av av' K K') : Pair w q p av' av K' K := ⟨h.at2, h.at1, h.av2, h.av1, h.no2, h.no1, h.lt2, h.lt1⟩
theorem Pair.below {w w' : World} {p q : Nat} {av av' : Nat → Prop} {K K' : Bk} (h : Pair w p q av av' K K') (hb : Below w.heap.size w w') : Pair w' p q av av' K K' :=
  ⟨h.at1.below hb, h.at2.below hb, h.av1, h.av2, h.no1, h.no2, fun b x => Nat.lt_of_lt_of_le (h.lt1 b x) hb.size, fun b x => Nat.lt_of_lt_of_le (h.lt2 b x) hb.size⟩
/-- The first of the two has done an act. -/
theorem Pair.did {w w' : World} {p q : Nat} {av av' : Nat → Prop} {K K' : Bk} {X : Bk × Rp} {v : Value} (h : Pair w p q av av' K K') (ho : OwnInts w' w.heap.size v (nats X.2.done)) (hk : BankAt w' p (fun x => av x ∨ v.ownBlock = some x) X.1) (hO : Only (fun b => b = p) w w') :
    Pair w' p q (fun x => av x ∨ v.ownBlock = some x) av' X.1 K' where
  at1 := hk
  at2 := h.at2.only (hO.mono fun b _ e => e ▸ h.av2) h.no2
  av1 := .inl h.av1
  av2 := h.av2
  no1 := fun x => x.elim h.no1 fun e => by have := ho.own e; have := h.at1.lt; omega
  no2 := h.no2
  lt1 := fun b x => x.elim (fun y => Nat.lt_of_lt_of_le (h.lt1 b y) hO.size) fun e => ints_own_lt ho e
  lt2 := fun b x => Nat.lt_of_lt_of_le (h.lt2 b x) hO.size
end Go.Proofs.Ytggfdkkhlokmlac

