/- bank.next whole. -/
import Derived.Test.YtggfdkkhlokmlabNextP
import Derived.Test.YtggfdkkhlokmlabNextB
import Derived.Test.YtggfdkkhlokmlabNextC
namespace Go.Proofs.Ytggfdkkhlokmlab
open Go.RowKit
/-- What bank.next makes of a good house. -/
theorem next_any (h : Hs) (l : List Pay) (v0 : Value) (d : Deed) (w : World) (hown : OwnPays w 0 v0 l) (g : GoodP h l) :
  Calls Try.prog 61 #[.agg (hc h v0), .agg (dc d)] w (NextPost v0 (midL h l d) w) := by
 have bt : ∀ b : Bool, ¬ b = false → b = true := fun b hb => by cases b <;> simp_all
 obtain ⟨k, a, b, c, n⟩ := d
 unfold midL
 dsimp only
 by_cases q1 : k = 1
 ·subst q1
  rw [if_pos rfl]
  by_cases e1 : goodPay (payOf h ⟨1, a, b, c, n⟩) = false
  ·rw [if_pos e1]
   exact next_pay_no1 h l v0 a b c n w hown g e1
  rw [if_neg e1]
  have e1 := bt _ e1
  by_cases e2 : 24 ≤ l.length ∨ 1048576 ≤ h.next
  ·rw [if_pos e2]
   by_cases e3 : 24 ≤ l.length
   ·exact next_pay_no2 h l v0 a b c n w hown g e1 e3
   ·exact next_pay_no3 h l v0 a b c n w hown g e1 (by omega) (by omega)
  rw [if_neg e2]
  exact next_pay_yes h l v0 a b c n w hown g e1 (by omega) (by omega)
 rw [if_neg q1]
 by_cases q2 : k = 2
 ·subst q2
  rw [if_pos rfl]
  by_cases e1 : waitsAt l a = false
  ·rw [if_pos e1]
   exact next_revoke_no1 h l v0 a b c n w hown g e1
  rw [if_neg e1]
  have e1 := bt _ e1
  exact next_revoke_yes h l v0 a b c n w hown g e1
 rw [if_neg q2]
 by_cases q3 : k = 3
 ·subst q3
  rw [if_pos rfl]
  by_cases e1 : waitsAt l a = false
  ·rw [if_pos e1]
   exact next_class_no1 h l v0 a b c n w hown g e1
  rw [if_neg e1]
  have e1 := bt _ e1
  by_cases e2 : sm 0 c 2 = false
  ·rw [if_pos e2]
   exact next_class_no2 h l v0 a b c n w hown g e1 e2
  rw [if_neg e2]
  have e2 := bt _ e2
  by_cases e3 : 1048576 ≤ h.next
  ·rw [if_pos e3]
   exact next_class_no3 h l v0 a b c n w hown g e1 e2 e3
  rw [if_neg e3]
  exact next_class_yes h l v0 a b c n w hown g e1 e2 (by omega)
 rw [if_neg q3]
 by_cases q4 : k = 4
 ·subst q4
  rw [if_pos rfl]
  by_cases e1 : sm 0 a 3 = false ∨ sm 0 n 1000000 = false
  ·rw [if_pos e1]
   by_cases e2 : sm 0 a 3 = false
   ·exact next_credit_no1 h l v0 a b c n w hown g e2
   ·exact next_credit_no2 h l v0 a b c n w hown g (bt _ e2) (e1.resolve_left e2)
  rw [if_neg e1]
  obtain ⟨e1, e2⟩ := not_or.1 e1
  exact next_credit_yes h l v0 a b c n w hown g (bt _ e1) (bt _ e2)
 rw [if_neg q4]
 by_cases q5 : k = 5
 ·subst q5
  rw [if_pos rfl]
  by_cases e1 : sm 0 a 3 = false ∨ sm 0 b 3 = false ∨ a = b ∨ sm (-1) n 1000000 = false
  ·rw [if_pos e1]
   by_cases e2 : sm 0 a 3 = false
   ·exact next_limit_no1 h l v0 a b c n w hown g e2
   by_cases e3 : sm 0 b 3 = false
   ·exact next_limit_no2 h l v0 a b c n w hown g (bt _ e2) e3
   by_cases e4 : a = b
   ·exact next_limit_no3 h l v0 a b c n w hown g (bt _ e2) (bt _ e3) (by simpa using e4)
   ·exact next_limit_no4 h l v0 a b c n w hown g (bt _ e2) (bt _ e3) (by simpa using e4) (((e1.resolve_left e2).resolve_left e3).resolve_left e4)
  rw [if_neg e1]
  obtain ⟨e1, e2⟩ := not_or.1 e1
  obtain ⟨e2, e3⟩ := not_or.1 e2
  obtain ⟨e3, e4⟩ := not_or.1 e3
  exact next_limit_yes h l v0 a b c n w hown g (bt _ e1) (bt _ e2) (by simpa using e3) (bt _ e4)
 rw [if_neg q5]
 by_cases q6 : k = 6
 ·subst q6
  rw [if_pos rfl]
  by_cases e1 : sm 0 a 3 = false ∨ sm 1 n 1000000 = false
  ·rw [if_pos e1]
   by_cases e2 : sm 0 a 3 = false
   ·exact next_fund_no1 h l v0 a b c n w hown g e2
   ·exact next_fund_no2 h l v0 a b c n w hown g (bt _ e2) (e1.resolve_left e2)
  rw [if_neg e1]
  obtain ⟨e1, e2⟩ := not_or.1 e1
  by_cases e3 : 549755813888 ≤ h.has a
  ·rw [if_pos e3]
   exact next_fund_no3 h l v0 a b c n w hown g (bt _ e1) (bt _ e2) e3
  rw [if_neg e3]
  exact next_fund_yes h l v0 a b c n w hown g (bt _ e1) (bt _ e2) (by omega)
 rw [if_neg q6]
 by_cases q7 : k = 7
 ·subst q7
  rw [if_pos rfl]
  by_cases e1 : sm 0 a 3 = false ∨ sm 1 n 1000000 = false
  ·rw [if_pos e1]
   by_cases e2 : sm 0 a 3 = false
   ·exact next_spend_no1 h l v0 a b c n w hown g e2
   ·exact next_spend_no2 h l v0 a b c n w hown g (bt _ e2) (e1.resolve_left e2)
  rw [if_neg e1]
  obtain ⟨e1, e2⟩ := not_or.1 e1
  by_cases e3 : h.has a + h.cr a < n
  ·rw [if_pos e3]
   exact next_spend_no3 h l v0 a b c n w hown g (bt _ e1) (bt _ e2) e3
  rw [if_neg e3]
  exact next_spend_yes h l v0 a b c n w hown g (bt _ e1) (bt _ e2) (by omega)
 rw [if_neg q7]
 by_cases q8 : k = 8
 ·subst q8
  rw [if_pos rfl]
  exact next_untie h l v0 a b c n w hown g
 rw [if_neg q8]
 by_cases q9 : k = 9
 ·subst q9
  rw [if_pos rfl]
  exact next_close h l v0 a b c n w hown g
 rw [if_neg q9]
 exact next_other h l v0 a b c n k w hown g ⟨q1, q2, q3, q4, q5, q6, q7, q8, q9⟩
end Go.Proofs.Ytggfdkkhlokmlab


