/- The bank and the reference's bank side by side. -/
import Derived.Test.YtggfdkkhlokmlabDorC
import Derived.Test.YtggfdkkhlokmlabDoAny
namespace Go.Proofs.Ytggfdkkhlokmlab
open Go.RowKit
section
variable {w w' : World} {av : Nat → Prop}
/-- The reference's bank, whose blocks are not written. -/
theorem RefAt.only {p : Nat} {K : Bk} (k : RefAt w p av K) (h : Only av w w') (hp : ¬ av p) : RefAt w' p av K := k.apart h.size h.block hp
/-- All new blocks are none of the bank's. -/
theorem RefAt.fresh {p : Nat} {K : Bk} (k : RefAt w p av K) : RefAt w p (fun b => av b ∨ w.heap.size ≤ b) K := by
 obtain ⟨a, cap, h1, h2, h3⟩ := k.box
 refine ⟨⟨a, cap, h1, h2, fun hl b off s e => ⟨(h3 hl b off s e).1, fun h4 => ?_⟩⟩⟩
 rcases h4 with h4 | h4
 ·exact (h3 hl b off s e).2 h4
 ·obtain ⟨b', off', e', hbl, _⟩ := h2.row hl
  rw [e] at e'; cases e'; omega
theorem RefAt.lt {p : Nat} {K : Bk} (k : RefAt w p av K) : p < w.heap.size := let ⟨_, _, h1, _⟩ := k.box; hlt h1
end
set_option maxRecDepth 100000 in
theorem refNew_any (w : World) : Calls Try.prog 29 #[] w fun e w' => ∃ p, e = .returned (.pointer (some ⟨p, 0, none⟩)) ∧ w.heap.size ≤ p ∧ (∀ av, RefAt w' p av Bk.new) ∧ Below w.heap.size w w' := by
 go_enter Try.func29, Try.ntmps29
 go_wp2_with fail
 refine (newHouse_any _).mono ?_
 rintro e w1 ⟨rfl, hb1⟩
 go_wp2_with fail
 go_ret
 exact ⟨w1.heap.size, rfl, hb1.size, fun av => ⟨⟨none, 0, hnew w1 _, ⟨by simp [Bk.new], by simp, by simp [Bk.new], by simp, by simp [Bk.new]⟩, by simp [Bk.new]⟩⟩, hb1.alloc hb1.size _⟩
/-- The reference's Do, of a bank within its sizes, whatever the act. -/
theorem dor_any (p : Nat) (av : Nat → Prop) (B : Bk) (d : Deed) (w : World) (hB : RefAt w p av B) (hav : ∀ x, av x → x < w.heap.size) (ht : B.text.length ≤ 4000) (hf : -1 ≤ B.fail ∧ B.fail ≤ 4000) (ha : B.acts ≤ 200) :
  Calls Try.prog 30 #[.pointer (some ⟨p, 0, none⟩), .agg (dc d)] w (DorPost p av (doL B d) w) := by
 obtain ⟨h, l, t, dn, f, n⟩ := B
 obtain ⟨k, a, b, c, x⟩ := d
 have hc := do_case ⟨h, l, t, dn, f, n⟩ ⟨k, a, b, c, x⟩
 by_cases hn : n < 200
 ·by_cases h11 : k = 11
  ·subst h11
   revert hc
   generalize hX : doL ⟨h, l, t, dn, f, n⟩ ⟨11, a, b, c, x⟩ = X
   intro hc
   cases hc with
   | full h0 => exact absurd hn (by simp only at h0; omega)
   | openUp h0 h1 h2 => simp only at h2; subst h2; exact dor_openUp p av h l t f n a b c x w hB hn
   | opened h0 h1 h2 => simp only at h2; subst h2; exact dor_opened p av h l t f n a b c x w hB hn ht hav
   | down h0 h1 h2 => exact absurd rfl h1
   | failBad h0 h1 => simp at h1
   | failSet h0 h1 => simp at h1
   | refused h0 h1 h2 => exact absurd rfl h2
   | notNoted h0 h1 h2 => exact absurd rfl h2
   | bookFull h0 h1 h2 => exact absurd rfl h2
   | lost h0 h1 h2 => exact absurd rfl h2
   | done h0 h1 h2 => exact absurd rfl h2
  ·cases dn with
   | true =>
    have e : doL ⟨h, l, t, true, f, n⟩ ⟨k, a, b, c, x⟩ = (⟨h, l, t, true, f, n + 1⟩, .no 7) := by
     unfold doL
     rw [if_neg (by simp only; omega), if_neg h11, if_pos rfl]
     rfl
    rw [e]
    exact dor_down p av h l t f n k a b c x w hB hn h11
   | false =>
    by_cases h10 : k = 10
    ·subst h10
     revert hc
     generalize hX : doL ⟨h, l, t, false, f, n⟩ ⟨10, a, b, c, x⟩ = X
     intro hc
     cases hc with
     | full h0 => exact absurd hn (by simp only at h0; omega)
     | openUp h0 h1 h2 => simp at h1
     | opened h0 h1 h2 => simp at h1
     | down h0 h1 h2 => simp at h2
     | failBad h0 h1 h2 h3 => exact dor_failBad p av h l t f n a b c x w hB hn h3
     | failSet h0 h1 h2 h3 => exact dor_failSet p av h l t f n a b c x w hB hn h3
     | refused h0 h1 h2 => exact absurd rfl h1
     | notNoted h0 h1 h2 => exact absurd rfl h1
     | bookFull h0 h1 h2 => exact absurd rfl h1
     | lost h0 h1 h2 => exact absurd rfl h1
     | done h0 h1 h2 => exact absurd rfl h1
    ·exact dor_work p av h l t f n k a b c x w hB hn h10 h11 ht hf.1 hf.2 hav
 ·have e : doL ⟨h, l, t, dn, f, n⟩ ⟨k, a, b, c, x⟩ = (⟨h, l, t, dn, f, n⟩, .no 5) := by
   unfold doL
   rw [if_pos (by simp only; omega)]
  rw [e]
  exact dor_full p av h l t dn f n k a b c x w hB (by simp only at ha; omega)
/-- A bank in block p and one of the reference's in block q: neither writes in the other. -/
structure Both (w : World) (p q : Nat) (K K' : Bk) : Prop where
 bank : BankAt w p (fun x => x = q) K
 ref : RefAt w q (fun x => x = p) K'
 ne : p ≠ q
theorem Both.below {w w' : World} {p q : Nat} {K K' : Bk} (h : Both w p q K K') (hb : Below w.heap.size w w') : Both w' p q K K' := ⟨h.bank.below hb, h.ref.below hb, h.ne⟩
theorem Both.did1 {w w' : World} {p q : Nat} {K K' X : Bk} {av : Nat → Prop} (h : Both w p q K K') (hk : BankAt w' p (fun x => x = q ∨ av x) X) (hO : Only (fun b => b = p) w w') : Both w' p q X K' :=
 ⟨hk.mono fun _ e => .inl e, h.ref.only (hO.mono fun _ _ e => e) (fun e => h.ne e.symm), h.ne⟩
theorem Both.did2 {w w' : World} {p q : Nat} {K K' X : Bk} {av : Nat → Prop} (h : Both w p q K K') (hk : RefAt w' q (fun x => x = p ∨ av x) X) (hO : Only (fun b => b = q) w w') : Both w' p q K X :=
 ⟨h.bank.only (hO.mono fun _ _ e => e) h.ne, hk.mono fun _ e => .inl e, h.ne⟩
/-- Behind g another fact may hold till another operation. -/
theorem wpG_next {P : Program} {ops : Array Oper} {Q : Exit → Act → World → Prop} {md : Region.Mode} {I I' : World → Prop} {g g' : Nat} : ∀ (fuel : Nat) (listed : Array Bool) (a : Act) (w : World), listed.getD g true = true → wpG P md ops Q I' g' fuel listed a w → wpG P md ops Q I g fuel listed a w
 | 0, _, _, _, _, h => h
 | fuel + 1, listed, _, _, hg, h => ⟨h.1, fun i hi => wpOp_mono (fun a' w' h' =>
   have hg2 : (listed.setIfInBounds i true).getD g true = true := by
    by_cases e : i = g
    ·subst e
     simp only [Array.getD_eq_getD_getElem?, Array.getElem?_setIfInBounds]
     repeat' split
     all_goals first | rfl | simp_all
    ·rw [getD_set_ne true e]; exact hg
   ⟨fun e => (by rw [hg2] at e; cases e), wpG_next fuel _ a' w' hg2 h'.2⟩) (h.2 i hi)⟩
end Go.Proofs.Ytggfdkkhlokmlab


