/- What an act makes of a good house, leaf by leaf: plain Lean. -/
import Derived.Test.YtggfdkkhlokmlabMidMath
namespace Go.Proofs.Ytggfdkkhlokmlab
section
variable {h : Hs} {l : List Pay} {d : Deed}
theorem nl_none (g : goodB h l = true) (h1 : d.kind ≠ 1) (h2 : d.kind ≠ 2) (h3 : d.kind ≠ 3) (h4 : d.kind ≠ 4) (h5 : d.kind ≠ 5) (h6 : d.kind ≠ 6) (h7 : d.kind ≠ 7) (h8 : d.kind ≠ 8) (h9 : d.kind ≠ 9) : nextL h l d = .err h l 2 := by
 unfold nextL; rw [if_neg (by rw [g]; simp), if_neg h1, if_neg h2, if_neg h3, if_neg h4, if_neg h5, if_neg h6, if_neg h7, if_neg h8, if_neg h9]
theorem nl_pay1 (g : goodB h l = true) (k : d.kind = 1) (e1 : goodPay (payOf h d) = false) : nextL h l d = .err h l 3 := by
 unfold nextL; rw [if_neg (by rw [g]; simp), if_pos k, if_pos e1]
theorem nl_pay2 (g : goodB h l = true) (k : d.kind = 1) (e1 : goodPay (payOf h d) = true) (e2 : 24 ≤ l.length ∨ 1048576 ≤ h.next) : nextL h l d = .err h l 5 := by
 unfold nextL; rw [if_neg (by rw [g]; simp), if_pos k, if_neg (by rw [e1]; simp), if_pos e2]
theorem nl_pay (g : goodB h l = true) (k : d.kind = 1) (e1 : goodPay (payOf h d) = true) (e2 : ¬ (24 ≤ l.length ∨ 1048576 ≤ h.next)) : nextL h l d = .swept (h.setNext (h.next + 1)) (l ++ [payOf h d]) l.length [] := by
 unfold nextL; rw [if_neg (by rw [g]; simp), if_pos k, if_neg (by rw [e1]; simp), if_neg e2]
theorem nl_rev1 (g : goodB h l = true) (k : d.kind = 2) (e1 : waitsAt l d.a = false) : nextL h l d = .err h l 4 := by
 unfold nextL; rw [if_neg (by rw [g]; simp), if_neg (by omega), if_pos k, if_pos e1]
theorem nl_rev (g : goodB h l = true) (k : d.kind = 2) (e1 : waitsAt l d.a = true) : nextL h l d = .swept h (l.set d.a.toNat (payAt l d.a.toNat).gone) 0 [] := by
 unfold nextL; rw [if_neg (by rw [g]; simp), if_neg (by omega), if_pos k, if_neg (by rw [e1]; simp)]
theorem nl_cls1 (g : goodB h l = true) (k : d.kind = 3) (e1 : waitsAt l d.a = false) : nextL h l d = .err h l 4 := by
 unfold nextL; rw [if_neg (by rw [g]; simp), if_neg (by omega), if_neg (by omega), if_pos k, if_pos e1]
theorem nl_cls2 (g : goodB h l = true) (k : d.kind = 3) (e1 : waitsAt l d.a = true) (e2 : sm 0 d.c 2 = false) : nextL h l d = .err h l 3 := by
 unfold nextL; rw [if_neg (by rw [g]; simp), if_neg (by omega), if_neg (by omega), if_pos k, if_neg (by rw [e1]; simp), if_pos e2]
theorem nl_cls3 (g : goodB h l = true) (k : d.kind = 3) (e1 : waitsAt l d.a = true) (e2 : sm 0 d.c 2 = true) (e3 : 1048576 ≤ h.next) : nextL h l d = .err h l 5 := by
 unfold nextL; rw [if_neg (by rw [g]; simp), if_neg (by omega), if_neg (by omega), if_pos k, if_neg (by rw [e1]; simp), if_neg (by rw [e2]; simp), if_pos e3]
theorem nl_cls (g : goodB h l = true) (k : d.kind = 3) (e1 : waitsAt l d.a = true) (e2 : sm 0 d.c 2 = true) (e3 : ¬ 1048576 ≤ h.next) : nextL h l d = .swept (h.setNext (h.next + 1)) (l.set d.a.toNat ((payAt l d.a.toNat).last d.c h.next)) 0 [] := by
 unfold nextL; rw [if_neg (by rw [g]; simp), if_neg (by omega), if_neg (by omega), if_pos k, if_neg (by rw [e1]; simp), if_neg (by rw [e2]; simp), if_neg e3]
theorem nl_cre1 (g : goodB h l = true) (k : d.kind = 4) (e : sm 0 d.a 3 = false ∨ sm 0 d.n 1000000 = false) : nextL h l d = .err h l 3 := by
 unfold nextL; rw [if_neg (by rw [g]; simp), if_neg (by omega), if_neg (by omega), if_neg (by omega), if_pos k, if_pos e]
theorem nl_cre (g : goodB h l = true) (k : d.kind = 4) (e : ¬ (sm 0 d.a 3 = false ∨ sm 0 d.n 1000000 = false)) : nextL h l d = .swept (h.setCr d.a d.n) l 0 [] := by
 unfold nextL; rw [if_neg (by rw [g]; simp), if_neg (by omega), if_neg (by omega), if_neg (by omega), if_pos k, if_neg e]
theorem nl_lim1 (g : goodB h l = true) (k : d.kind = 5) (e : sm 0 d.a 3 = false ∨ sm 0 d.b 3 = false ∨ d.a = d.b ∨ sm (-1) d.n 1000000 = false) : nextL h l d = .err h l 3 := by
 unfold nextL; rw [if_neg (by rw [g]; simp), if_neg (by omega), if_neg (by omega), if_neg (by omega), if_neg (by omega), if_pos k, if_pos e]
theorem nl_lim (g : goodB h l = true) (k : d.kind = 5) (e : ¬ (sm 0 d.a 3 = false ∨ sm 0 d.b 3 = false ∨ d.a = d.b ∨ sm (-1) d.n 1000000 = false)) : nextL h l d = .swept (h.setLim d.a d.b d.n) l 0 [] := by
 unfold nextL; rw [if_neg (by rw [g]; simp), if_neg (by omega), if_neg (by omega), if_neg (by omega), if_neg (by omega), if_pos k, if_neg e]
theorem nl_fs1 (g : goodB h l = true) (k : d.kind = 6 ∨ d.kind = 7) (e : sm 0 d.a 3 = false ∨ sm 1 d.n 1000000 = false) : nextL h l d = .err h l 3 := by
 unfold nextL; rw [if_neg (by rw [g]; simp), if_neg (by omega), if_neg (by omega), if_neg (by omega), if_neg (by omega), if_neg (by omega)]
 rcases k with k | k
 ·rw [if_pos k, if_pos e]
 ·rw [if_neg (by omega), if_pos k, if_pos e]
theorem nl_fund2 (g : goodB h l = true) (k : d.kind = 6) (e : ¬ (sm 0 d.a 3 = false ∨ sm 1 d.n 1000000 = false)) (e3 : 549755813888 ≤ h.has d.a) : nextL h l d = .err h l 5 := by
 unfold nextL; rw [if_neg (by rw [g]; simp), if_neg (by omega), if_neg (by omega), if_neg (by omega), if_neg (by omega), if_neg (by omega), if_pos k, if_neg e, if_pos e3]
theorem nl_fund (g : goodB h l = true) (k : d.kind = 6) (e : ¬ (sm 0 d.a 3 = false ∨ sm 1 d.n 1000000 = false)) (e3 : ¬ 549755813888 ≤ h.has d.a) : nextL h l d = .swept (h.setHas d.a (h.has d.a + d.n)) l 0 [] := by
 unfold nextL; rw [if_neg (by rw [g]; simp), if_neg (by omega), if_neg (by omega), if_neg (by omega), if_neg (by omega), if_neg (by omega), if_pos k, if_neg e, if_neg e3]
theorem nl_spend2 (g : goodB h l = true) (k : d.kind = 7) (e : ¬ (sm 0 d.a 3 = false ∨ sm 1 d.n 1000000 = false)) (e3 : h.has d.a + h.cr d.a < d.n) : nextL h l d = .err h l 6 := by
 unfold nextL; rw [if_neg (by rw [g]; simp), if_neg (by omega), if_neg (by omega), if_neg (by omega), if_neg (by omega), if_neg (by omega), if_neg (by omega), if_pos k, if_neg e, if_pos e3]
theorem nl_spend (g : goodB h l = true) (k : d.kind = 7) (e : ¬ (sm 0 d.a 3 = false ∨ sm 1 d.n 1000000 = false)) (e3 : ¬ h.has d.a + h.cr d.a < d.n) : nextL h l d = .swept (h.setHas d.a (h.has d.a - d.n)) l 0 [] := by
 unfold nextL; rw [if_neg (by rw [g]; simp), if_neg (by omega), if_neg (by omega), if_neg (by omega), if_neg (by omega), if_neg (by omega), if_neg (by omega), if_pos k, if_neg e, if_neg e3]
theorem nl_untie (g : goodB h l = true) (k : d.kind = 8) : nextL h l d = .swept (untieS h l).h (untieS h l).l (untieS h l).d.length (untieS h l).d := by
 unfold nextL; rw [if_neg (by rw [g]; simp), if_neg (by omega), if_neg (by omega), if_neg (by omega), if_neg (by omega), if_neg (by omega), if_neg (by omega), if_neg (by omega), if_pos k]
end
end Go.Proofs.Ytggfdkkhlokmlab


