/- The banks behind the beginnings of a list of acts: plain Lean. -/
import Derived.Test.YtggfdkkhlokmlabCPln
namespace Go.Proofs.Ytggfdkkhlokmlab
/-- The bank behind the first i acts; its log; the reply to the next act. -/
noncomputable def Bs (l : List Deed) (i : Nat) : Bk := runB (l.take i) Bk.new
noncomputable def Gs (l : List Deed) (i : Nat) : List Deed × List Deed := runG (l.take i) Bk.new ([], [])
noncomputable def Rs (l : List Deed) (i : Nat) (d : Deed) : Rp := (doL (Bs l i) d).2
theorem runG_app : ∀ (l k : List Deed) (B : Bk) (g : List Deed × List Deed), runG (l ++ k) B g = runG k (runB l B) (runG l B g)
 | [], _, _, _ => rfl
 | _ :: l, k, _, _ => runG_app l k _ _
theorem bs_zero (l : List Deed) : Bs l 0 = Bk.new := rfl
theorem take_more {l : List Deed} {i : Nat} {d : Deed} (h : l[i]? = some d) : l.take (i + 1) = l.take i ++ [d] := by
 rw [List.take_add_one, h]; rfl
theorem bs_succ {l : List Deed} {i : Nat} {d : Deed} (h : l[i]? = some d) : Bs l (i + 1) = (doL (Bs l i) d).1 := by
 rw [Bs, take_more h, runB_app]; rfl
theorem gs_succ {l : List Deed} {i : Nat} {d : Deed} (h : l[i]? = some d) : Gs l (i + 1) = stepLog (Bs l i) (Gs l i) d := by
 rw [Gs, take_more h, runG_app]; rfl
theorem do_pair {l : List Deed} {i : Nat} {d : Deed} (h : l[i]? = some d) : doL (Bs l i) d = (Bs l (i + 1), Rs l i d) := by
 rw [bs_succ h]; rfl
theorem bs_works (l : List Deed) (i : Nat) : Works (Bs l i) (Gs l i) := run_works _
theorem bs_good (l : List Deed) (i : Nat) : Good3 (Bs l i).h (Bs l i).l := (bs_works l i).good
theorem bs_acts {l : List Deed} {i : Nat} (h : i ≤ l.length) (h2 : i ≤ 200) : (Bs l i).acts = i := by
 have hl : (l.take i).length = i := by rw [List.length_take]; omega
 have := run_acts (l.take i) Bk.new (by rw [hl]; simp only [Bk.new]; omega)
 rw [hl] at this
 rw [Bs, this]
 simp [Bk.new]
/-! ### a crash -/
theorem crash_back {B : Bk} {g : List Deed × List Deed} {a : Deed} (k : Works B g) (hk : a.kind = 11) (hc : (doL B a).2.code = 0) : (doL B a).2.n = ((stepLog B g a).1.length : Int) ∧ (doL B a).1.down = false := by
 unfold stepLog
 rw [if_pos ⟨hk, hc⟩]
 have h := do_case B a
 revert h hc
 generalize doL B a = x
 intro hc h
 cases h with
 | opened h0 h1 h2 =>
  refine ⟨?_, rfl⟩
  rcases k.back h2 with ⟨hr, _⟩ | ⟨x, hx, _, _, hr⟩
  ·rw [hr]; simp
  ·rw [hr, hx]
   simp only [List.length_append, List.length_singleton]
   rw [if_neg (by omega)]
   simp
 | full h0 => cases hc
 | openUp h0 h1 h2 => cases hc
 | down h0 h1 h2 => exact absurd hk h1
 | failBad h0 h1 => omega
 | failSet h0 h1 => omega
 | refused h0 h1 h2 => exact absurd hk h2
 | notNoted h0 h1 h2 => exact absurd hk h2
 | bookFull h0 h1 h2 => exact absurd hk h2
 | lost h0 h1 h2 => exact absurd hk h2
 | done h0 h1 h2 => exact absurd hk h2
/-! ### sums -/
end Go.Proofs.Ytggfdkkhlokmlab


