/- cmp.Compare and cmp.Or at int; the order in which queue.Of sorts. -/
import Derived.Test.YtggfdkkhlokmlaaSame
import Derived.Test.YtggfdkkhlokmlaaQueueMath
import Derived.Test.YtggfdkkhlokmlaaCalm
import Derived.BigRegion
import Derived.Outline
namespace Go.Proofs.Ytggfdkkhlokmlaa
open Go.RowKit
def cmpI (a b : Int) : Int := if a < b then -1 else if b < a then 1 else 0
def orI (a b : Int) : Int := if a = 0 then b else a
def cmpP (p q : Pay) : Int := orI (cmpI p.cls q.cls) (cmpI p.seq q.seq)
theorem cmpI_b (a b : Int) : -1 ≤ cmpI a b ∧ cmpI a b ≤ 1 := by unfold cmpI; split <;> (try split) <;> omega
theorem cmpI_lt {a b : Int} : cmpI a b < 0 ↔ a < b := by unfold cmpI; split <;> (try split) <;> omega
theorem cmpI_eq {a b : Int} : cmpI a b = 0 ↔ a = b := by unfold cmpI; split <;> (try split) <;> omega
theorem cmpP_lt {p q : Pay} : cmpP p q < 0 ↔ p.cls < q.cls ∨ p.cls = q.cls ∧ p.seq < q.seq := by
  unfold cmpP orI
  split
  · rename_i h; have h := cmpI_eq.1 h; rw [cmpI_lt]; omega
  · rename_i h; rw [cmpI_lt]; have h : ¬ p.cls = q.cls := fun e => h (cmpI_eq.2 e); omega
set_option maxHeartbeats 400000 in
theorem isNaN_any (a : Int) (w : World) : Calls Try.prog 86 #[.int .i64 a] w fun e w' => e = .returned (.bool false) ∧ w = w' := by
  go_enter Try.func86, Try.ntmps86
  go_wp2
  go_ret
  exact ⟨rfl, rfl⟩
set_option maxHeartbeats 1000000 in
theorem compare_any (a b : Int) (w : World) : Calls Try.prog 74 #[.int .i64 a, .int .i64 b] w fun e w' => e = .returned (.int .i64 (cmpI a b)) ∧ w = w' := by
  obtain ⟨r, hr⟩ : ∃ r, cmpI a b = r := ⟨_, rfl⟩
  rw [hr]
  by_cases h1 : a < b
  · have e : r = -1 := by rw [← hr]; simp [cmpI, h1]
    subst e
    clear hr
    go_enter Try.func74, Try.ntmps74
    go_wp2_with (go_at_call 86; refine (isNaN_any _ _).mono ?_; rintro e w' ⟨rfl, rfl⟩)
    go_ret
    exact ⟨rfl, rfl⟩
  · by_cases h2 : b < a
    · have e : r = 1 := by rw [← hr]; simp [cmpI, h1, h2]
      subst e
      clear hr
      go_enter Try.func74, Try.ntmps74
      go_wp2_with (go_at_call 86; refine (isNaN_any _ _).mono ?_; rintro e w' ⟨rfl, rfl⟩)
      go_ret
      exact ⟨rfl, rfl⟩
    · have e : r = 0 := by rw [← hr]; simp [cmpI, h1, h2]
      subst e
      clear hr
      go_enter Try.func74, Try.ntmps74
      go_wp2_with (go_at_call 86; refine (isNaN_any _ _).mono ?_; rintro e w' ⟨rfl, rfl⟩)
      go_ret
      exact ⟨rfl, rfl⟩
set_option maxHeartbeats 1000000 in
/-- cmp.Or of two ints that lie in a block. -/
theorem or_any (a b : Int) (g : Nat) (w : World) (h0 : w.cell? ⟨g, 0, none⟩ = some (.int .i64 a)) (h1 : w.cell? ⟨g, 1, none⟩ = some (.int .i64 b)) :
    Calls Try.prog 73 #[.slice (some ⟨g, 0, none⟩) 2 2] w fun e w' => e = .returned (.int .i64 (orI a b)) ∧ w = w' := by
  by_cases e1 : a = 0
  · subst e1
    have hr : orI 0 b = b := by simp [orI]
    rw [hr]
    clear hr
    by_cases e2 : b = 0
    · subst e2
      go_enter Try.func73, Try.ntmps73
      go_wp2
      refine wp_loop_rounds 3 ?_
      rw [rounds_succ]
      go_wp2
      rw [rounds_succ]
      go_wp2
      rw [rounds_succ]
      go_wp2
      go_ret
      exact ⟨rfl, rfl⟩
    · have hb : (b != 0) = true := by rw [bne_iff_ne]; exact e2
      go_enter Try.func73, Try.ntmps73
      go_wp2
      refine wp_loop_rounds 2 ?_
      rw [rounds_succ]
      go_wp2
      rw [rounds_succ]
      go_wp2
      go_ret
      exact ⟨rfl, rfl⟩
  · have hr : orI a b = a := by simp [orI, e1]
    have ha : (a != 0) = true := by rw [bne_iff_ne]; exact e1
    rw [hr]
    clear hr
    go_enter Try.func73, Try.ntmps73
    go_wp2
    refine wp_loop_rounds 1 ?_
    rw [rounds_succ]
    go_wp2
    go_ret
    exact ⟨rfl, rfl⟩
end Go.Proofs.Ytggfdkkhlokmlaa
