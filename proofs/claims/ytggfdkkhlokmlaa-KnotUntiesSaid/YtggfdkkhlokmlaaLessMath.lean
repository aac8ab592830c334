/- One payment fewer of a bank: plain Lean. -/
import Derived.Test.YtggfdkkhlokmlaaKnot2
namespace Go.Proofs.Ytggfdkkhlokmlaa
open Go.RowKit
theorem fst4_firsts (l : List Pay) (xs : Nat → List Nat) (n : Nat → Nat) (N : Int → Nat) (hx : ∀ b : Nat, b < 4 → xs b = ofL l (b : Int)) (hN : ∀ b : Nat, b < 4 → n b = N (b : Int)) : fst4 xs n 4 = firsts l N 4 := by
  simp only [fst4, firsts, hx 0 (by omega), hx 1 (by omega), hx 2 (by omega), hx 3 (by omega), hN 0 (by omega), hN 1 (by omega), hN 2 (by omega), hN 3 (by omega)]
theorem hc_congr {x y : Hs} (s : Value) (h1 : ∀ i, 0 ≤ i → i < 4 → x.has i = y.has i) (h2 : ∀ i, 0 ≤ i → i < 4 → x.cr i = y.cr i) (h3 : ∀ i k, 0 ≤ i → i < 4 → 0 ≤ k → k < 4 → x.sent i k = y.sent i k) (h4 : ∀ i k, 0 ≤ i → i < 4 → 0 ≤ k → k < 4 → x.lim i k = y.lim i k) (h5 : x.next = y.next) : hc x s = hc y s := by
  simp only [hc, h1 0 (by decide) (by decide), h2 0 (by decide) (by decide), h1 1 (by decide) (by decide), h2 1 (by decide) (by decide), h1 2 (by decide) (by decide), h2 2 (by decide) (by decide), h1 3 (by decide) (by decide), h2 3 (by decide) (by decide), h3 0 0 (by decide) (by decide) (by decide) (by decide), h4 0 0 (by decide) (by decide) (by decide) (by decide), h3 0 1 (by decide) (by decide) (by decide) (by decide), h4 0 1 (by decide) (by decide) (by decide) (by decide), h3 0 2 (by decide) (by decide) (by decide) (by decide), h4 0 2 (by decide) (by decide) (by decide) (by decide), h3 0 3 (by decide) (by decide) (by decide) (by decide), h4 0 3 (by decide) (by decide) (by decide) (by decide), h3 1 0 (by decide) (by decide) (by decide) (by decide), h4 1 0 (by decide) (by decide) (by decide) (by decide), h3 1 1 (by decide) (by decide) (by decide) (by decide), h4 1 1 (by decide) (by decide) (by decide) (by decide), h3 1 2 (by decide) (by decide) (by decide) (by decide), h4 1 2 (by decide) (by decide) (by decide) (by decide), h3 1 3 (by decide) (by decide) (by decide) (by decide), h4 1 3 (by decide) (by decide) (by decide) (by decide), h3 2 0 (by decide) (by decide) (by decide) (by decide), h4 2 0 (by decide) (by decide) (by decide) (by decide), h3 2 1 (by decide) (by decide) (by decide) (by decide), h4 2 1 (by decide) (by decide) (by decide) (by decide), h3 2 2 (by decide) (by decide) (by decide) (by decide), h4 2 2 (by decide) (by decide) (by decide) (by decide), h3 2 3 (by decide) (by decide) (by decide) (by decide), h4 2 3 (by decide) (by decide) (by decide) (by decide), h3 3 0 (by decide) (by decide) (by decide) (by decide), h4 3 0 (by decide) (by decide) (by decide) (by decide), h3 3 1 (by decide) (by decide) (by decide) (by decide), h4 3 1 (by decide) (by decide) (by decide) (by decide), h3 3 2 (by decide) (by decide) (by decide) (by decide), h4 3 2 (by decide) (by decide) (by decide) (by decide), h3 3 3 (by decide) (by decide) (by decide) (by decide), h4 3 3 (by decide) (by decide) (by decide) (by decide), h5]
theorem sum_snoc {α : Type} (f : α → Int) (xs : List α) (k : Nat) (i : α) (h : xs[k]? = some i) : ((xs.take (k + 1)).map f).sum = ((xs.take k).map f).sum + f i := by
  rw [List.take_add_one, h]
  simp
theorem outs_snoc (l : List Pay) (b : Int) {xs : List Nat} {k i : Nat} (h : xs[k]? = some i) : outs l b (xs.take (k + 1)) = outs l b (xs.take k) + if (payAt l i).frm = b then (payAt l i).amt else 0 := sum_snoc _ xs k i h
theorem ins_snoc (l : List Pay) (t : Int) {xs : List Nat} {k i : Nat} (h : xs[k]? = some i) : ins l t (xs.take (k + 1)) = ins l t (xs.take k) + if (payAt l i).to = t then (payAt l i).amt else 0 := sum_snoc _ xs k i h
theorem tot_snoc (l : List Pay) (b t : Int) {xs : List Nat} {k i : Nat} (h : xs[k]? = some i) : tot l b t (xs.take (k + 1)) = tot l b t (xs.take k) + if (payAt l i).frm = b ∧ (payAt l i).to = t then (payAt l i).amt else 0 := sum_snoc _ xs k i h
theorem lessN_self (n : Int → Nat) (b : Int) : lessN n b b = n b - 1 := by simp [lessN]
theorem lessN_ne (n : Int → Nat) {b c : Int} (h : c ≠ b) : lessN n b c = n c := by simp [lessN, h]
theorem after_less_has {l : List Pay} (hl : AllPay l) (h : Hs) {N : Int → Nat} {b : Int} {k i : Nat} (hb : 0 ≤ b ∧ b < 4) (hk : N b = k + 1) (hi : (ofL l b)[k]? = some i) {c : Int} (hc : 0 ≤ c ∧ c < 4) :
    (after l (lessN N b) h).has c = (after l N h).has c + (if c = (payAt l i).frm then (payAt l i).amt else 0) - (if c = (payAt l i).to then (payAt l i).amt else 0) := by
  have hf : (payAt l i).frm = b := (ofL_mem.1 (List.mem_of_getElem? hi)).2.2
  rw [after_has hl _ _ hc, after_has hl _ _ hc, hf]
  have ho : outs l c ((ofL l c).take (N c)) = outs l c ((ofL l c).take (lessN N b c)) + if c = b then (payAt l i).amt else 0 := by
    by_cases e : c = b
    · subst e
      rw [lessN_self, hk, outs_snoc l c hi, hf]; simp
    · rw [lessN_ne N e, if_neg e]; omega
  have hin : ∀ t : Int, ins l c ((ofL l t).take (N t)) = ins l c ((ofL l t).take (lessN N b t)) + if t = b then (if c = (payAt l i).to then (payAt l i).amt else 0) else 0 := fun t => by
    by_cases e : t = b
    · subst e
      rw [lessN_self, hk, ins_snoc l c hi, if_pos rfl]
      by_cases e2 : (payAt l i).to = c
      · rw [if_pos e2, if_pos e2.symm]; simp
      · rw [if_neg e2, if_neg (fun h => e2 h.symm)]; simp
    · rw [lessN_ne N e, if_neg e]; omega
  have i0 := hin 0; have i1 := hin 1; have i2 := hin 2; have i3 := hin 3
  rcases four hb with rfl | rfl | rfl | rfl
  all_goals
    simp only [Int.reduceEq, if_true, if_false] at i0 i1 i2 i3
    omega
theorem after_less_sent {l : List Pay} (hl : AllPay l) (h : Hs) {N : Int → Nat} {b : Int} {k i : Nat} (hk : N b = k + 1) (hi : (ofL l b)[k]? = some i) {c : Int} (t : Int) (hc : 0 ≤ c ∧ c < 4) :
    (after l (lessN N b) h).sent c t = (after l N h).sent c t - if c = (payAt l i).frm ∧ t = (payAt l i).to then (payAt l i).amt else 0 := by
  have hf : (payAt l i).frm = b := (ofL_mem.1 (List.mem_of_getElem? hi)).2.2
  rw [after_sent hl _ _ t hc, after_sent hl _ _ t hc, hf]
  by_cases e : c = b
  · subst e
    rw [lessN_self, hk, tot_snoc l c t hi, hf]
    by_cases e2 : (payAt l i).to = t
    · rw [if_pos ⟨rfl, e2⟩, if_pos ⟨rfl, e2.symm⟩]; simp; omega
    · rw [if_neg (fun h => e2 h.2), if_neg (fun h => e2 h.2.symm)]; simp
  · rw [lessN_ne N e, if_neg (fun h => e h.1)]; omega
/-- What Most's three assignments make of the house. -/
theorem hc_less {l : List Pay} (hl : AllPay l) (h : Hs) (s : Value) {N : Int → Nat} {b : Int} {k i : Nat} (hb : 0 ≤ b ∧ b < 4) (hk : N b = k + 1) (hi : (ofL l b)[k]? = some i) :
    hc ((((after l N h).setHas (payAt l i).frm ((after l N h).has (payAt l i).frm + (payAt l i).amt)).setHas (payAt l i).to ((after l N h).has (payAt l i).to - (payAt l i).amt)).setSent (payAt l i).frm (payAt l i).to ((after l N h).sent (payAt l i).frm (payAt l i).to - (payAt l i).amt)) s = hc (after l (lessN N b) h) s := by
  have hs := hl i (ofL_mem.1 (List.mem_of_getElem? hi)).1
  have hne := hs.ne
  refine hc_congr s (fun c c0 c1 => ?_) (fun c c0 c1 => ?_) (fun c t c0 c1 t0 t1 => ?_) (fun c t c0 c1 t0 t1 => ?_) ?_
  · rw [after_less_has hl h hb hk hi ⟨c0, c1⟩]
    simp only [Hs.setSent, Hs.setHas]
    by_cases e : c = (payAt l i).to
    · rw [if_pos e, if_pos e, if_neg (fun e' => hne (e'.symm.trans e)), e]; omega
    · rw [if_neg e, if_neg e]
      by_cases e' : c = (payAt l i).frm
      · rw [if_pos e', if_pos e', e']; omega
      · rw [if_neg e', if_neg e']; omega
  · simp only [Hs.setSent, Hs.setHas]; rw [after_cr, after_cr]
  · rw [after_less_sent hl h hk hi t ⟨c0, c1⟩]
    simp only [Hs.setSent, Hs.setHas]
    by_cases e : c = (payAt l i).frm ∧ t = (payAt l i).to
    · rw [if_pos e, if_pos e, e.1, e.2]
    · rw [if_neg e, if_neg e]; omega
  · simp only [Hs.setSent, Hs.setHas]; rw [after_lim, after_lim]
  · simp only [Hs.setSent, Hs.setHas]; rw [after_next, after_next]
end Go.Proofs.Ytggfdkkhlokmlaa
