/- What Do leaves. -/
import Derived.Test.YtggfdkkhlokmlabBankFns
import Derived.Test.YtggfdkkhlokmlabOnly
namespace Go.Proofs.Ytggfdkkhlokmlab
open Go.RowKit
/-- What Do leaves: the bank behind it, its reply's list in a block of its own; nothing but the bank's block is written. -/
def DoPost (p : Nat) (av : Nat → Prop) (X : Bk × Rp) (w : World) (e : Ending) (w' : World) : Prop :=
 ∃ v, e = .returned (.agg (rc X.2.code X.2.n v)) ∧ OwnInts w' w.heap.size v (nats X.2.done) ∧ BankAt w' p (fun x => av x ∨ v.ownBlock = some x) X.1 ∧ Only (fun b => b = p) w w'
theorem do_end {p : Nat} {av : Nat → Prop} {X : Bk × Rp} {w w' : World} {e : Ending} {v : Value} {a : Option Addr} {cap : Nat} (he : e = .returned (.agg (rc X.2.code X.2.n v))) (ho : OwnInts w' w.heap.size v (nats X.2.done))
  (hg : w'.heap[p]? = some (.cells (bc X.1.h (.slice a X.1.l.length cap) X.1.text X.1.down X.1.fail X.1.acts) 83 (0, 0))) (hp : PaysAt w' a cap X.1.l)
  (hap : 0 < X.1.l.length → ∀ b off s, a = some ⟨b, off, s⟩ → b ≠ p ∧ ¬ av b ∧ v.ownBlock ≠ some b) (hO : Only (fun b => b = p) w w') : DoPost p av X w e w' :=
 ⟨v, he, ho, ⟨⟨a, cap, hg, hp, fun hl b off s e => ⟨(hap hl b off s e).1, fun h => h.elim (hap hl b off s e).2.1 (hap hl b off s e).2.2⟩⟩⟩, hO⟩
/-- A reply without a list; the payments as they lay. -/
theorem do_end_no {p : Nat} {av : Nat → Prop} {K : Bk} {c n : Int} {w w' : World} {e : Ending} {a : Option Addr} {cap : Nat} (he : e = .returned (.agg (rc c n (.slice none 0 0))))
  (hg : w'.heap[p]? = some (.cells (bc K.h (.slice a K.l.length cap) K.text K.down K.fail K.acts) 83 (0, 0))) (hp : PaysAt w a cap K.l)
  (hap : 0 < K.l.length → ∀ b off s, a = some ⟨b, off, s⟩ → b ≠ p ∧ ¬ av b) (hO : Only (fun b => b = p) w w') : DoPost p av (K, ⟨c, n, []⟩) w e w' :=
 do_end (X := (K, ⟨c, n, []⟩)) he (OwnInts.nil _ _) hg (hO.pays hp fun hl b off s e => (hap hl b off s e).1) (fun hl b off s e => ⟨(hap hl b off s e).1, (hap hl b off s e).2, by simp [Value.ownBlock]⟩) hO
end Go.Proofs.Ytggfdkkhlokmlab


