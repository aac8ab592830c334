/- bank.Do whole. -/
import Derived.Test.YtggfdkkhlokmlabDoC
namespace Go.Proofs.Ytggfdkkhlokmlab
open Go.RowKit
/-- Do, of a bank within its sizes, whatever the act. -/
theorem do_any (p : Nat) (av : Nat → Prop) (B : Bk) (d : Deed) (w : World) (hB : BankAt w p av B) (hav : ∀ x, av x → x < w.heap.size) (ht : B.text.length ≤ 4000) (hf : -1 ≤ B.fail ∧ B.fail ≤ 4000) :
  Calls Try.prog 26 #[.pointer (some ⟨p, 0, none⟩), .agg (dc d)] w (DoPost p av (doL B d) w) := by
 obtain ⟨h, l, t, dn, f, n⟩ := B
 obtain ⟨k, a, b, c, x⟩ := d
 have hc := do_case ⟨h, l, t, dn, f, n⟩ ⟨k, a, b, c, x⟩
 by_cases hn : n < 200
 ·by_cases h11 : k = 11
  ·subst h11
   revert hc
   generalize hX : doL ⟨h, l, t, dn, f, n⟩ ⟨11, a, b, c, x⟩ = X
   intro hc
   cases hc with
   | full h0 => exact absurd hn (by simp only at h0; omega)
   | openUp h0 h1 h2 => simp only at h2; subst h2; exact do_openUp p av h l t f n a b c x w hB hn
   | opened h0 h1 h2 => simp only at h2; subst h2; exact do_opened p av h l t f n a b c x w hB hn ht hav
   | down h0 h1 h2 => exact absurd rfl h1
   | failBad h0 h1 => simp at h1
   | failSet h0 h1 => simp at h1
   | refused h0 h1 h2 => exact absurd rfl h2
   | notNoted h0 h1 h2 => exact absurd rfl h2
   | bookFull h0 h1 h2 => exact absurd rfl h2
   | lost h0 h1 h2 => exact absurd rfl h2
   | done h0 h1 h2 => exact absurd rfl h2
  ·cases dn with
   | true =>
    have e : doL ⟨h, l, t, true, f, n⟩ ⟨k, a, b, c, x⟩ = (⟨h, l, t, true, f, n + 1⟩, .no 7) := by
     unfold doL
     rw [if_neg (by simp only; omega), if_neg h11, if_pos rfl]
     rfl
    rw [e]
    exact do_down p av h l t f n k a b c x w hB hn h11
   | false =>
    by_cases h10 : k = 10
    ·subst h10
     revert hc
     generalize hX : doL ⟨h, l, t, false, f, n⟩ ⟨10, a, b, c, x⟩ = X
     intro hc
     cases hc with
     | full h0 => exact absurd hn (by simp only at h0; omega)
     | openUp h0 h1 h2 => simp at h1
     | opened h0 h1 h2 => simp at h1
     | down h0 h1 h2 => simp at h2
     | failBad h0 h1 h2 h3 => exact do_failBad p av h l t f n a b c x w hB hn h3
     | failSet h0 h1 h2 h3 => exact do_failSet p av h l t f n a b c x w hB hn h3
     | refused h0 h1 h2 => exact absurd rfl h1
     | notNoted h0 h1 h2 => exact absurd rfl h1
     | bookFull h0 h1 h2 => exact absurd rfl h1
     | lost h0 h1 h2 => exact absurd rfl h1
     | done h0 h1 h2 => exact absurd rfl h1
    ·exact do_work p av h l t f n k a b c x w hB hn h10 h11 ht hf.1 hf.2 hav
 ·have e : doL ⟨h, l, t, dn, f, n⟩ ⟨k, a, b, c, x⟩ = (⟨h, l, t, dn, f, n⟩, .no 5) := by
   unfold doL
   rw [if_pos (by simp only; omega)]
  rw [e]
  exact do_full p av h l t dn f n k a b c x w hB (by omega)
end Go.Proofs.Ytggfdkkhlokmlab


