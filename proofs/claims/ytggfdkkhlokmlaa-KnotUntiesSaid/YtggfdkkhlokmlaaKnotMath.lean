/- Payments of all banks together: plain Lean. -/
import Derived.Test.YtggfdkkhlokmlaaQueueMath
namespace Go.Proofs.Ytggfdkkhlokmlaa

/-! ### many moves -/
def moves (l : List Pay) : List Nat → Hs → Hs
  | [], h => h
  | i :: xs, h => moves l xs (h.move (payAt l i).frm (payAt l i).to (payAt l i).amt)
theorem moves_app (l : List Pay) : ∀ (xs ys : List Nat) (h : Hs), moves l (xs ++ ys) h = moves l ys (moves l xs h)
  | [], _, _ => rfl
  | _ :: xs, ys, _ => moves_app l xs ys _
/-- What the payments xs send from b to t; from b; to t. -/
def tot (l : List Pay) (b t : Int) (xs : List Nat) : Int := (xs.map fun i => if (payAt l i).frm = b ∧ (payAt l i).to = t then (payAt l i).amt else 0).sum
def outs (l : List Pay) (b : Int) (xs : List Nat) : Int := (xs.map fun i => if (payAt l i).frm = b then (payAt l i).amt else 0).sum
def ins (l : List Pay) (t : Int) (xs : List Nat) : Int := (xs.map fun i => if (payAt l i).to = t then (payAt l i).amt else 0).sum
theorem tot_app (l : List Pay) (b t : Int) (xs ys : List Nat) : tot l b t (xs ++ ys) = tot l b t xs + tot l b t ys := by simp [tot]
theorem outs_app (l : List Pay) (b : Int) (xs ys : List Nat) : outs l b (xs ++ ys) = outs l b xs + outs l b ys := by simp [outs]
theorem ins_app (l : List Pay) (t : Int) (xs ys : List Nat) : ins l t (xs ++ ys) = ins l t xs + ins l t ys := by simp [ins]
/-- Every payment of xs may be sent. -/
def Snd (l : List Pay) (xs : List Nat) : Prop := ∀ i ∈ xs, Sends (payAt l i).frm (payAt l i).to (payAt l i).amt
theorem sum_nonneg {α : Type} (f : α → Int) : ∀ xs : List α, (∀ i ∈ xs, 0 ≤ f i) → 0 ≤ (xs.map f).sum
  | [], _ => by simp
  | i :: xs, h => by
    have h1 := h i (by simp)
    have h2 := sum_nonneg f xs fun j hj => h j (by simp [hj])
    simp only [List.map_cons, List.sum_cons]
    omega
theorem sum_zero {α : Type} (f : α → Int) : ∀ xs : List α, (∀ i ∈ xs, f i = 0) → (xs.map f).sum = 0
  | [], _ => by simp
  | i :: xs, h => by
    have h1 := h i (by simp)
    have h2 := sum_zero f xs fun j hj => h j (by simp [hj])
    simp only [List.map_cons, List.sum_cons]
    omega
theorem tot_pos {l : List Pay} (b t : Int) {xs : List Nat} (h : Snd l xs) : 0 ≤ tot l b t xs :=
  sum_nonneg _ _ fun i hi => by have := (h i hi).a0; split <;> omega
theorem ins_pos {l : List Pay} (t : Int) {xs : List Nat} (h : Snd l xs) : 0 ≤ ins l t xs :=
  sum_nonneg _ _ fun i hi => by have := (h i hi).a0; split <;> omega
theorem outs_pos {l : List Pay} (t : Int) {xs : List Nat} (h : Snd l xs) : 0 ≤ outs l t xs :=
  sum_nonneg _ _ fun i hi => by have := (h i hi).a0; split <;> omega
theorem moves_sent {l : List Pay} : ∀ (xs : List Nat) (h : Hs), Snd l xs → ∀ b t, (moves l xs h).sent b t = h.sent b t + tot l b t xs
  | [], h, _, b, t => by simp [moves, tot]
  | i :: xs, h, hx, b, t => by
    have hs := hx i (by simp)
    have ih := moves_sent xs (h.move (payAt l i).frm (payAt l i).to (payAt l i).amt) (fun j hj => hx j (by simp [hj])) b t
    simp only [moves]
    rw [ih, move_sent hs]
    simp only [tot, List.map_cons, List.sum_cons]
    by_cases e : b = (payAt l i).frm ∧ t = (payAt l i).to
    · obtain ⟨rfl, rfl⟩ := e
      simp; omega
    · rw [if_neg e, if_neg (fun h' => e ⟨h'.1.symm, h'.2.symm⟩)]; omega
theorem moves_has {l : List Pay} : ∀ (xs : List Nat) (h : Hs), Snd l xs → ∀ b, (moves l xs h).has b = h.has b - outs l b xs + ins l b xs
  | [], h, _, b => by simp [moves, outs, ins]
  | i :: xs, h, hx, b => by
    have hs := hx i (by simp)
    have ih := moves_has xs (h.move (payAt l i).frm (payAt l i).to (payAt l i).amt) (fun j hj => hx j (by simp [hj])) b
    simp only [moves]
    rw [ih, move_has hs]
    simp only [outs, ins, List.map_cons, List.sum_cons]
    have hne := hs.ne
    by_cases e : b = (payAt l i).to
    · subst e
      rw [if_pos rfl, if_neg (fun h' => hne h'), if_pos rfl]; omega
    · by_cases e' : b = (payAt l i).frm
      · subst e'
        rw [if_neg e, if_pos rfl, if_pos rfl, if_neg (fun h' => e h'.symm)]; omega
      · rw [if_neg e, if_neg e', if_neg (fun h' => e' h'.symm), if_neg (fun h' => e h'.symm)]; omega
theorem moves_lim (l : List Pay) : ∀ (xs : List Nat) (h : Hs), (moves l xs h).lim = h.lim
  | [], _ => rfl
  | _ :: xs, _ => (moves_lim l xs _).trans (move_lim _ _ _ _)
theorem moves_cr (l : List Pay) : ∀ (xs : List Nat) (h : Hs), (moves l xs h).cr = h.cr
  | [], _ => rfl
  | _ :: xs, _ => (moves_cr l xs _).trans (move_cr _ _ _ _)
theorem moves_next (l : List Pay) : ∀ (xs : List Nat) (h : Hs), (moves l xs h).next = h.next
  | [], _ => rfl
  | _ :: xs, _ => (moves_next l xs _).trans (move_next _ _ _ _)
theorem moves_total (l : List Pay) : ∀ (xs : List Nat) (h : Hs), (moves l xs h).total = h.total
  | [], _ => rfl
  | _ :: xs, _ => (moves_total l xs _).trans (move_total _ _ _ _)

/-! ### how many of each bank -/
/-- The first n payments of each bank's queue, bank by bank. -/
noncomputable def firsts (l : List Pay) (n : Int → Nat) : Nat → List Nat
  | 0 => []
  | k + 1 => firsts l n k ++ (ofL l (k : Int)).take (n (k : Int))
noncomputable def after (l : List Pay) (n : Int → Nat) (h : Hs) : Hs := moves l (firsts l n 4) h
/-- The payments that a house may have. -/
def AllPay (l : List Pay) : Prop := ∀ i, i < l.length → Sends (payAt l i).frm (payAt l i).to (payAt l i).amt
theorem snd_take {l : List Pay} (hl : AllPay l) (b : Int) (n : Nat) : Snd l ((ofL l b).take n) := fun i hi => hl i (ofL_mem.1 (List.mem_of_mem_take hi)).1
theorem snd_firsts {l : List Pay} (hl : AllPay l) (n : Int → Nat) : ∀ k, Snd l (firsts l n k)
  | 0 => fun i hi => by simp [firsts] at hi
  | k + 1 => fun i hi => by
    rcases List.mem_append.1 hi with h | h
    · exact snd_firsts hl n k i h
    · exact snd_take hl _ _ i h
/-- A bank's own payments. -/
theorem outs_take_ne (l : List Pay) {b c : Int} (h : b ≠ c) (n : Nat) : outs l b ((ofL l c).take n) = 0 :=
  sum_zero _ _ fun i hi => by
    have := (ofL_mem.1 (List.mem_of_mem_take hi)).2.2
    rw [if_neg (by rw [this]; exact fun e => h e.symm)]
theorem tot_take_ne (l : List Pay) {b c : Int} (t : Int) (h : b ≠ c) (n : Nat) : tot l b t ((ofL l c).take n) = 0 :=
  sum_zero _ _ fun i hi => by
    have := (ofL_mem.1 (List.mem_of_mem_take hi)).2.2
    rw [if_neg (fun e => h (by rw [← e.1, this]))]
theorem outs_firsts (l : List Pay) (n : Int → Nat) {b : Int} (h : 0 ≤ b ∧ b < 4) : outs l b (firsts l n 4) = outs l b ((ofL l b).take (n b)) := by
  have e0 : outs l b [] = 0 := rfl
  simp only [firsts, List.nil_append, outs_app]
  rcases four h with rfl | rfl | rfl | rfl
  · rw [outs_take_ne l (c := ((1 : Nat) : Int)) (by decide), outs_take_ne l (c := ((2 : Nat) : Int)) (by decide), outs_take_ne l (c := ((3 : Nat) : Int)) (by decide)]; simp
  · rw [outs_take_ne l (c := ((0 : Nat) : Int)) (by decide), outs_take_ne l (c := ((2 : Nat) : Int)) (by decide), outs_take_ne l (c := ((3 : Nat) : Int)) (by decide)]; simp
  · rw [outs_take_ne l (c := ((0 : Nat) : Int)) (by decide), outs_take_ne l (c := ((1 : Nat) : Int)) (by decide), outs_take_ne l (c := ((3 : Nat) : Int)) (by decide)]; simp
  · rw [outs_take_ne l (c := ((0 : Nat) : Int)) (by decide), outs_take_ne l (c := ((1 : Nat) : Int)) (by decide), outs_take_ne l (c := ((2 : Nat) : Int)) (by decide)]; simp
theorem tot_firsts (l : List Pay) (n : Int → Nat) {b : Int} (t : Int) (h : 0 ≤ b ∧ b < 4) : tot l b t (firsts l n 4) = tot l b t ((ofL l b).take (n b)) := by
  simp only [firsts, List.nil_append, tot_app]
  rcases four h with rfl | rfl | rfl | rfl
  · rw [tot_take_ne l (c := ((1 : Nat) : Int)) t (by decide), tot_take_ne l (c := ((2 : Nat) : Int)) t (by decide), tot_take_ne l (c := ((3 : Nat) : Int)) t (by decide)]; simp
  · rw [tot_take_ne l (c := ((0 : Nat) : Int)) t (by decide), tot_take_ne l (c := ((2 : Nat) : Int)) t (by decide), tot_take_ne l (c := ((3 : Nat) : Int)) t (by decide)]; simp
  · rw [tot_take_ne l (c := ((0 : Nat) : Int)) t (by decide), tot_take_ne l (c := ((1 : Nat) : Int)) t (by decide), tot_take_ne l (c := ((3 : Nat) : Int)) t (by decide)]; simp
  · rw [tot_take_ne l (c := ((0 : Nat) : Int)) t (by decide), tot_take_ne l (c := ((1 : Nat) : Int)) t (by decide), tot_take_ne l (c := ((2 : Nat) : Int)) t (by decide)]; simp
theorem ins_firsts (l : List Pay) (n : Int → Nat) (t : Int) : ins l t (firsts l n 4) = ins l t ((ofL l 0).take (n 0)) + ins l t ((ofL l 1).take (n 1)) + ins l t ((ofL l 2).take (n 2)) + ins l t ((ofL l 3).take (n 3)) := by
  simp only [firsts, List.nil_append, ins_app]; rfl
theorem after_has {l : List Pay} (hl : AllPay l) (n : Int → Nat) (h : Hs) {b : Int} (hb : 0 ≤ b ∧ b < 4) :
    (after l n h).has b = h.has b - outs l b ((ofL l b).take (n b)) + (ins l b ((ofL l 0).take (n 0)) + ins l b ((ofL l 1).take (n 1)) + ins l b ((ofL l 2).take (n 2)) + ins l b ((ofL l 3).take (n 3))) := by
  rw [after, moves_has _ _ (snd_firsts hl n 4), outs_firsts l n hb, ins_firsts]
theorem after_sent {l : List Pay} (hl : AllPay l) (n : Int → Nat) (h : Hs) {b : Int} (t : Int) (hb : 0 ≤ b ∧ b < 4) : (after l n h).sent b t = h.sent b t + tot l b t ((ofL l b).take (n b)) := by
  rw [after, moves_sent _ _ (snd_firsts hl n 4), tot_firsts l n t hb]
theorem after_lim (l : List Pay) (n : Int → Nat) (h : Hs) : (after l n h).lim = h.lim := moves_lim _ _ _
theorem after_cr (l : List Pay) (n : Int → Nat) (h : Hs) : (after l n h).cr = h.cr := moves_cr _ _ _
theorem after_next (l : List Pay) (n : Int → Nat) (h : Hs) : (after l n h).next = h.next := moves_next _ _ _

/-! ### standing fine -/
/-- May the bank stand as it does in x, if it has done n? -/
structure Stands (x : Hs) (b : Int) : Prop where
  left : 0 ≤ x.has b + x.cr b
  lim : ∀ t, 0 ≤ t → t < 4 → 0 ≤ x.lim b t → x.sent b t - x.sent t b ≤ x.lim b t
def Fine (x : Hs) (b : Int) (n : Nat) : Prop := n = 0 ∨ Stands x b
theorem take_split {α : Type} (xs : List α) {n m : Nat} (h : n ≤ m) : ∃ ys, xs.take m = xs.take n ++ ys := by
  refine ⟨(xs.take m).drop n, ?_⟩
  have := (List.take_append_drop n (xs.take m)).symm
  rw [List.take_take, Nat.min_eq_left h] at this
  exact this
theorem ins_mono {l : List Pay} (hl : AllPay l) (c t : Int) {n m : Nat} (h : n ≤ m) : ins l t ((ofL l c).take n) ≤ ins l t ((ofL l c).take m) := by
  obtain ⟨ys, e⟩ := take_split (ofL l c) h
  have : Snd l ys := fun i hi => snd_take hl c m i (by rw [e]; simp [hi])
  have := ins_pos t this
  rw [e, ins_app]; omega
theorem tot_mono {l : List Pay} (hl : AllPay l) (c b t : Int) {n m : Nat} (h : n ≤ m) : tot l b t ((ofL l c).take n) ≤ tot l b t ((ofL l c).take m) := by
  obtain ⟨ys, e⟩ := take_split (ofL l c) h
  have : Snd l ys := fun i hi => snd_take hl c m i (by rw [e]; simp [hi])
  have := tot_pos b t this
  rw [e, tot_app]; omega
/-- n is of no bank more than m. -/
def LeN (n m : Int → Nat) : Prop := ∀ b, 0 ≤ b → b < 4 → n b ≤ m b
theorem stands_mono {l : List Pay} (hl : AllPay l) {h : Hs} {n m : Int → Nat} (hnm : LeN n m) {b : Int} (hb : 0 ≤ b ∧ b < 4) (e : n b = m b) (hs : Stands (after l n h) b) : Stands (after l m h) b := by
  constructor
  · have h1 := hs.left
    rw [after_has hl n h hb, after_cr] at h1
    rw [after_has hl m h hb, after_cr, ← e]
    have i0 := ins_mono hl 0 b (hnm 0 (by omega) (by omega))
    have i1 := ins_mono hl 1 b (hnm 1 (by omega) (by omega))
    have i2 := ins_mono hl 2 b (hnm 2 (by omega) (by omega))
    have i3 := ins_mono hl 3 b (hnm 3 (by omega) (by omega))
    omega
  · intro t t0 t1 hlim
    rw [after_lim] at hlim
    have h1 := hs.lim t t0 t1 (by rw [after_lim]; exact hlim)
    rw [after_sent hl n h t hb, after_sent hl n h b ⟨t0, t1⟩, after_lim] at h1
    rw [after_sent hl m h t hb, after_sent hl m h b ⟨t0, t1⟩, after_lim, ← e]
    have := tot_mono hl t t b (hnm t t0 t1)
    omega
theorem fine_mono {l : List Pay} (hl : AllPay l) {h : Hs} {n m : Int → Nat} (hnm : LeN n m) {b : Int} (hb : 0 ≤ b ∧ b < 4) (e : n b = m b) (hs : Fine (after l n h) b (n b)) : Fine (after l m h) b (m b) :=
  hs.elim (fun h => .inl (by omega)) fun h => .inr (stands_mono hl hnm hb e h)
/-- Each bank may do so many of its first payments, all at once. -/
structure Tog (h : Hs) (l : List Pay) (n : Int → Nat) : Prop where
  le : ∀ b, 0 ≤ b → b < 4 → n b ≤ (ofL l b).length
  fine : ∀ b, 0 ≤ b → b < 4 → Fine (after l n h) b (n b)
def maxN (n m : Int → Nat) : Int → Nat := fun b => max (n b) (m b)
theorem Tog.join {h : Hs} {l : List Pay} (hl : AllPay l) {n m : Int → Nat} (hn : Tog h l n) (hm : Tog h l m) : Tog h l (maxN n m) where
  le := fun b h0 h1 => by have := hn.le b h0 h1; have := hm.le b h0 h1; simp only [maxN]; omega
  fine := fun b h0 h1 => by
    by_cases e : m b ≤ n b
    · exact fine_mono hl (fun c _ _ => by simp only [maxN]; omega) ⟨h0, h1⟩ (by simp only [maxN]; omega) (hn.fine b h0 h1)
    · exact fine_mono hl (fun c _ _ => by simp only [maxN]; omega) ⟨h0, h1⟩ (by simp only [maxN]; omega) (hm.fine b h0 h1)
theorem tog_zero (h : Hs) (l : List Pay) : Tog h l (fun _ => 0) := ⟨fun _ _ _ => Nat.zero_le _, fun _ _ _ => .inl rfl⟩
/-- The most that may be done together. -/
structure IsMost (h : Hs) (l : List Pay) (n : Int → Nat) : Prop where
  tog : Tog h l n
  most : ∀ m, Tog h l m → LeN m n
theorem IsMost.unique {h : Hs} {l : List Pay} {n m : Int → Nat} (hn : IsMost h l n) (hm : IsMost h l m) {b : Int} (h0 : 0 ≤ b) (h1 : b < 4) : n b = m b :=
  Nat.le_antisymm (hm.most n hn.tog b h0 h1) (hn.most m hm.tog b h0 h1)
/-- One payment fewer of a bank that may not stand so: all that may be done together is within it still. -/
def lessN (n : Int → Nat) (b : Int) : Int → Nat := fun c => if c = b then n b - 1 else n c
theorem fewer {h : Hs} {l : List Pay} (hl : AllPay l) {n : Int → Nat} {b : Int} (hb : 0 ≤ b ∧ b < 4) (hn : ¬ Fine (after l n h) b (n b)) (hm : ∀ m, Tog h l m → LeN m n) : ∀ m, Tog h l m → LeN m (lessN n b) := by
  intro m ht c h0 h1
  have h2 := hm m ht
  by_cases e : c = b
  · subst e
    have h3 := h2 c h0 h1
    have h4 : m c ≠ n c := fun e' => hn (fine_mono hl h2 hb e' (ht.fine c h0 h1))
    simp only [lessN, if_true]
    omega
  · simp only [lessN, if_neg e]; exact h2 c h0 h1
/-! ### there is a most -/
def sumN (n : Int → Nat) : Nat := n 0 + n 1 + n 2 + n 3
theorem lessN_sum {n : Int → Nat} {b : Int} (hb : 0 ≤ b ∧ b < 4) (h : n b ≠ 0) : sumN (lessN n b) + 1 = sumN n := by
  rcases four hb with rfl | rfl | rfl | rfl <;> simp [sumN, lessN] <;> omega
theorem most_from {h : Hs} {l : List Pay} (hl : AllPay l) : ∀ (k : Nat) (n : Int → Nat), sumN n = k → (∀ b, 0 ≤ b → b < 4 → n b ≤ (ofL l b).length) → (∀ m, Tog h l m → LeN m n) → ∃ n, IsMost h l n := by
  intro k
  induction k using Nat.strongRecOn with
  | ind k ih =>
    intro n hk hle hm
    by_cases hall : ∀ b, 0 ≤ b → b < 4 → Fine (after l n h) b (n b)
    · exact ⟨n, ⟨hle, hall⟩, hm⟩
    · obtain ⟨b, hb⟩ := Classical.not_forall.1 hall
      obtain ⟨h0, hb⟩ := Classical.not_forall.1 hb
      obtain ⟨h1, hf⟩ := Classical.not_forall.1 hb
      have hne : n b ≠ 0 := fun e => hf (.inl e)
      have hs := lessN_sum (n := n) ⟨h0, h1⟩ hne
      refine ih (sumN (lessN n b)) (by omega) (lessN n b) rfl (fun c c0 c1 => ?_) (fewer hl ⟨h0, h1⟩ hf hm)
      have := hle c c0 c1
      have := hle b h0 h1
      simp only [lessN]
      split
      · rename_i e; subst e; omega
      · omega
theorem most_exists (h : Hs) {l : List Pay} (hl : AllPay l) : ∃ n, IsMost h l n :=
  most_from hl _ (fun b => (ofL l b).length) rfl (fun _ _ _ => Nat.le_refl _) fun _ hm => hm.le
open Classical in
noncomputable def mostOf (h : Hs) (l : List Pay) : Int → Nat := if hx : ∃ n, IsMost h l n then Classical.choose hx else fun _ => 0
theorem mostOf_is (h : Hs) {l : List Pay} (hl : AllPay l) : IsMost h l (mostOf h l) := by
  have hx := most_exists h hl
  simp only [mostOf, dif_pos hx]
  exact Classical.choose_spec hx
theorem firsts_congr (l : List Pay) {n m : Int → Nat} (h : ∀ b, 0 ≤ b → b < 4 → n b = m b) : firsts l n 4 = firsts l m 4 := by
  have h0 := h ((0 : Nat) : Int) (by decide) (by decide)
  have h1 := h ((1 : Nat) : Int) (by decide) (by decide)
  have h2 := h ((2 : Nat) : Int) (by decide) (by decide)
  have h3 := h ((3 : Nat) : Int) (by decide) (by decide)
  simp only [firsts]
  rw [h0, h1, h2, h3]
/-- All of xs are settled, one by one. -/
def settleAll (xs : List Nat) (S : St) : St := xs.foldl St.settle S
theorem settleAll_app (xs ys : List Nat) (S : St) : settleAll (xs ++ ys) S = settleAll ys (settleAll xs S) := List.foldl_append
end Go.Proofs.Ytggfdkkhlokmlaa
