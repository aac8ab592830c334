/- The reference's bank in its block; what its Do leaves (as for bank.Bank). -/
import Derived.Test.YtggfdkkhlokmlabBankMore
import Derived.Test.YtggfdkkhlokmlabCLed
namespace Go.Proofs.Ytggfdkkhlokmlab
open Go.RowKit
/-- The bank B lies in block p; its payments lie neither there nor in a block of av. -/
structure RefAt (w : World) (p : Nat) (av : Nat → Prop) (B : Bk) : Prop where
 box : ∃ a cap, w.heap[p]? = some (.cells (bc B.h (.slice a B.l.length cap) B.text B.down B.fail B.acts) 68 (0, 0)) ∧ PaysAt w a cap B.l ∧ (0 < B.l.length → ∀ b off s, a = some ⟨b, off, s⟩ → b ≠ p ∧ ¬ av b)
theorem RefAt.below {w w' : World} {p : Nat} {av : Nat → Prop} {B : Bk} (k : RefAt w p av B) (hb : Below w.heap.size w w') : RefAt w' p av B :=
 let ⟨a, cap, h1, h2, h3⟩ := k.box
 ⟨⟨a, cap, hkeep hb h1, h2.below hb, h3⟩⟩
theorem RefAt.mono {w : World} {p : Nat} {av av' : Nat → Prop} {B : Bk} (k : RefAt w p av B) (h : ∀ x, av' x → av x) : RefAt w p av' B :=
 let ⟨a, cap, h1, h2, h3⟩ := k.box
 ⟨⟨a, cap, h1, h2, fun hl b off s e => ⟨(h3 hl b off s e).1, fun h4 => (h3 hl b off s e).2 (h b h4)⟩⟩⟩
/-- Blocks that are written are none of the bank's. -/
theorem RefAt.apart {w w' : World} {p : Nat} {av : Nat → Prop} {B : Bk} (k : RefAt w p av B) (hs : w.heap.size ≤ w'.heap.size) (hb : ∀ b, b < w.heap.size → ¬ av b → w'.heap[b]? = w.heap[b]?) (hp : ¬ av p) : RefAt w' p av B := by
 obtain ⟨a, cap, h1, h2, h3⟩ := k.box
 refine ⟨⟨a, cap, (hb p (hlt h1) hp).trans h1, ⟨h2.le, h2.capm, h2.room, h2.nil0, fun hl => ?_⟩, h3⟩⟩
 obtain ⟨b, off, e, hbl, hc⟩ := h2.row hl
 exact ⟨b, off, e, by omega, fun i q hq j v hv => (World.cell?_of_block (hb b hbl (h3 hl b off none e).2)).trans (hc i q hq j v hv)⟩
/-- What the reference's Do leaves: the bank behind it, its reply's list in a block of its own; nothing but the bank's block is written. -/
def DorPost (p : Nat) (av : Nat → Prop) (X : Bk × Rp) (w : World) (e : Ending) (w' : World) : Prop :=
 ∃ v, e = .returned (.agg (rc X.2.code X.2.n v)) ∧ OwnInts w' w.heap.size v (nats X.2.done) ∧ RefAt w' p (fun x => av x ∨ v.ownBlock = some x) X.1 ∧ Only (fun b => b = p) w w'
theorem dor_end {p : Nat} {av : Nat → Prop} {X : Bk × Rp} {w w' : World} {e : Ending} {v : Value} {a : Option Addr} {cap : Nat} (he : e = .returned (.agg (rc X.2.code X.2.n v))) (ho : OwnInts w' w.heap.size v (nats X.2.done))
  (hg : w'.heap[p]? = some (.cells (bc X.1.h (.slice a X.1.l.length cap) X.1.text X.1.down X.1.fail X.1.acts) 68 (0, 0))) (hp : PaysAt w' a cap X.1.l)
  (hap : 0 < X.1.l.length → ∀ b off s, a = some ⟨b, off, s⟩ → b ≠ p ∧ ¬ av b ∧ v.ownBlock ≠ some b) (hO : Only (fun b => b = p) w w') : DorPost p av X w e w' :=
 ⟨v, he, ho, ⟨⟨a, cap, hg, hp, fun hl b off s e => ⟨(hap hl b off s e).1, fun h => h.elim (hap hl b off s e).2.1 (hap hl b off s e).2.2⟩⟩⟩, hO⟩
/-- A reply without a list; the payments as they lay. -/
theorem dor_end_no {p : Nat} {av : Nat → Prop} {K : Bk} {c n : Int} {w w' : World} {e : Ending} {a : Option Addr} {cap : Nat} (he : e = .returned (.agg (rc c n (.slice none 0 0))))
  (hg : w'.heap[p]? = some (.cells (bc K.h (.slice a K.l.length cap) K.text K.down K.fail K.acts) 68 (0, 0))) (hp : PaysAt w a cap K.l)
  (hap : 0 < K.l.length → ∀ b off s, a = some ⟨b, off, s⟩ → b ≠ p ∧ ¬ av b) (hO : Only (fun b => b = p) w w') : DorPost p av (K, ⟨c, n, []⟩) w e w' :=
 dor_end (X := (K, ⟨c, n, []⟩)) he (OwnInts.nil _ _) hg (hO.pays hp fun hl b off s e => (hap hl b off s e).1) (fun hl b off s e => ⟨(hap hl b off s e).1, (hap hl b off s e).2, by simp [Value.ownBlock]⟩) hO
set_option maxRecDepth 100000 in
theorem dorNo_any (c : Int) (w : World) : Calls Try.prog 57 #[.int .i64 c] w fun e w' => e = .returned (.agg (rc c 0 (.slice none 0 0))) ∧ Below w.heap.size w w' := by
 go_enter Try.func57, Try.ntmps57
 have hg := hnew w (.cells (rc c 0 (.slice none 0 0)) 44)
 go_wp2_with (first | go_skip | (refine st_new 44 _ _ rfl _ 44 _ rfl rfl rfl (rc c 0 (.slice none 0 0)) rfl infoRp rfl (rc_one _ _ _ rfl) ?_))
 exact bodyPost_ret (results_cell_row rfl _ _ _ 44 _ (0, 0) _ rfl hg Try.underlying44 rfl infoRp) rfl ⟨rfl, (Below.refl _ _).alloc (Nat.le_refl _) _⟩
theorem within_val {n lo hi : Int} {b : Bool} (h : sm lo n hi = b) (w : World) : Calls Try.prog 59 #[.int .i64 n, .int .i64 lo, .int .i64 hi] w fun e w' => e = .returned (.bool b) ∧ w = w' := by
 rw [← h]; exact within_any n lo hi w
end Go.Proofs.Ytggfdkkhlokmlab


