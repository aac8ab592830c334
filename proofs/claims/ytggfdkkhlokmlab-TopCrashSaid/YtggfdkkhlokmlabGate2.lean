/- As wpG_first, the place of its value typed out. -/
import Derived.Test.YtggfdkkhlokmlabCMem
namespace Go.Proofs.Ytggfdkkhlokmlab
open Go.RowKit
theorem wpG_put {P : Program} {ops : Array Oper} {Q : Exit → Act → World → Prop} {md : Region.Mode} {I : World → Prop} {g : Nat} {i fuel : Nat} (d : Nat) {oi : Oper} {v : Value} {listed : Array Bool} {a : Act} {w : World} (c : List Nat) (hi : ops[i]? = some oi) (hd : oi.dst = some d) (hs : Region.noSelect ops = true) (hf : Region.free md ops listed i = true) (hr : (Region.ready md ops listed).contains i = true)
  (hch : (chainB md ops g c && c.contains i && (g != i) && closedB md ops listed && decide (g < listed.size)) = true) (hQ : ∀ c a w, Q (.panic c) (a.put (some d) v) w → Q (.panic c) a w) (hI : I w) (hy : YieldsIf P ops I oi v a)
  (h : wpG P md ops Q I g fuel (listed.setIfInBounds i true) (a.put (some d) v) w) : wpG P md ops Q I g (fuel + 1) listed a w :=
 wpG_first c hi hs hf hr hch (by rw [hd]; exact hQ) hI hy (by rw [hd]; exact h)
end Go.Proofs.Ytggfdkkhlokmlab


