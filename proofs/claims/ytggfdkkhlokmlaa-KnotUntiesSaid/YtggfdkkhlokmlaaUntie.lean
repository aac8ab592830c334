/- knot.Most on whatever house; knot.Untie: the walk. -/
import Derived.Test.YtggfdkkhlokmlaaMost2
import Derived.Test.YtggfdkkhlokmlaaAppendF
namespace Go.Proofs.Ytggfdkkhlokmlaa
open Go.RowKit
attribute [local go_sem] hc_pays hc_next hc_size qc_size nc_size
theorem most_any (h : Hs) (l : List Pay) (a : Option Addr) (cap : Nat) (w : World) (hp : PaysAt w a cap l) : Calls Try.prog 56 #[.agg (hc h (.slice a l.length cap))] w (MostPost h l w) := by
  cases hg : goodB h l with
  | false => exact most_bad h l a cap w hp hg
  | true => exact most_good h l a cap w hp (goodB_true hg)
/-- What Most answers, as a count. -/
noncomputable def mostC (h : Hs) (l : List Pay) (b : Nat) : Nat := if goodB h l = true then mostOf h l (b : Int) else 0
theorem mostC_eq (h : Hs) (l : List Pay) : mostN h l = fun b => (mostC h l b : Int) := by
  funext b
  simp only [mostN, mostC]
  split <;> simp
theorem mostC_pos {h : Hs} {l : List Pay} {b : Nat} (hp : 0 < mostC h l b) : GoodP h l := by
  cases hg : goodB h l with
  | false => simp [mostC, hg] at hp
  | true => exact goodB_true hg
theorem mostC_le {h : Hs} {l : List Pay} {b : Nat} (hb : b < 4) {xs : List Nat} (hq : IsQueue l (b : Int) xs) : mostC h l b ≤ xs.length := by
  cases hg : goodB h l with
  | false => simp [mostC, hg]
  | true =>
    have g := goodB_true hg
    simp only [mostC, hg, if_true]
    rw [hq.eq g.nodup]
    exact (mostOf_is h g.allPay).tog.le (b : Int) (by omega) (by omega)
theorem untie_eq {h : Hs} {l : List Pay} {xs : Nat → List Nat} (hq : ∀ b : Nat, b < 4 → IsQueue l (b : Int) (xs b)) : settleAll (fst4 xs (mostC h l) 4) ⟨h, l, []⟩ = untieS h l := by
  cases hg : goodB h l with
  | false =>
    have e : ∀ b, mostC h l b = 0 := fun b => by simp [mostC, hg]
    simp [untieS, hg, fst4, e, settleAll]
  | true =>
    have g := goodB_true hg
    rw [untieS, if_pos hg, fst4_firsts l xs (mostC h l) (mostOf h l) (fun b hb => (hq b hb).eq g.nodup) (fun b _ => by simp [mostC, hg])]
theorem fst4_mem {xs : Nat → List Nat} {n : Nat → Nat} {i : Nat} : ∀ k, i ∈ fst4 xs n k → ∃ b, b < k ∧ i ∈ xs b
  | 0, h => by simp [fst4] at h
  | k + 1, h => by
    rcases List.mem_append.1 h with h | h
    · obtain ⟨b, hb, hi⟩ := fst4_mem k h; exact ⟨b, by omega, hi⟩
    · exact ⟨k, by omega, List.mem_of_mem_take h⟩
theorem settleAll_other {i : Nat} : ∀ (A : List Nat) (S : St), i ∉ A → payAt (settleAll A S).l i = payAt S.l i
  | [], _, _ => rfl
  | j :: A, S, h => by
    have h1 := settleAll_other (i := i) A (S.settle j) (fun hm => h (List.mem_cons_of_mem _ hm))
    rw [show settleAll (j :: A) S = settleAll A (S.settle j) from rfl, h1]
    exact settled_ne (fun e => h (by simp [e]))
theorem settleAll_len : ∀ (A : List Nat) (S : St), (settleAll A S).l.length = S.l.length
  | [], _ => rfl
  | j :: A, S => (settleAll_len A (S.settle j)).trans (settled_len S.l j)
theorem settleAll_next (A xs : List Nat) (j i : Nat) (S : St) (h : xs[j]? = some i) : settleAll (A ++ xs.take (j + 1)) S = (settleAll (A ++ xs.take j) S).settle i := by
  rw [List.take_add_one, h]
  show settleAll (A ++ (xs.take j ++ [i])) S = _
  rw [← List.append_assoc, settleAll_app]
  rfl
/-- The next of the list still waits. -/
theorem next_waits {h : Hs} {l : List Pay} {xs : Nat → List Nat} {n : Nat → Nat} (hq : ∀ b : Nat, b < 4 → IsQueue l (b : Int) (xs b)) {m j i : Nat} (hm : m < 4) (hj : (xs m)[j]? = some i) :
    i < (settleAll (fst4 xs n m ++ (xs m).take j) ⟨h, l, []⟩).l.length ∧ (payAt (settleAll (fst4 xs n m ++ (xs m).take j) ⟨h, l, []⟩).l i).st = 1 := by
  have hi := (hq m hm).mem.1 (List.mem_of_getElem? hj)
  have hno : i ∉ fst4 xs n m ++ (xs m).take j := by
    intro hmem
    rcases List.mem_append.1 hmem with h1 | h1
    · obtain ⟨b, hb, hib⟩ := fst4_mem m h1
      have := ((hq b (by omega)).mem.1 hib).2.2
      have := hi.2.2
      omega
    · obtain ⟨k, hk⟩ := List.mem_iff_getElem?.1 h1
      have hkj : k < j := by have := (List.getElem?_eq_some_iff.1 hk).1; rw [List.length_take] at this; omega
      rw [List.getElem?_take_of_lt hkj] at hk
      have hjl := (List.getElem?_eq_some_iff.1 hj).1
      have := (List.getElem?_inj (l := xs m) (i := k) (j := j) (by omega) (hq m hm).nodup).1 (hk.trans hj.symm)
      omega
  rw [settleAll_len, settleAll_other _ _ hno]
  exact ⟨hi.1, hi.2.1⟩
theorem wk_part {h : Hs} {l : List Pay} (g : GoodP h l) {xs : Nat → List Nat} {n : Nat → Nat} (hq : ∀ b : Nat, b < 4 → IsQueue l (b : Int) (xs b)) : ∀ (m : Nat), m < 4 → ∀ j, j ≤ (xs m).length → Wk ⟨h, l, []⟩ (settleAll (fst4 xs n m) ⟨h, l, []⟩) → Wk ⟨h, l, []⟩ (settleAll (fst4 xs n m ++ (xs m).take j) ⟨h, l, []⟩)
  | m, hm, 0, _, hk => by simpa using hk
  | m, hm, j + 1, hj, hk => by
    have ih := wk_part g hq m hm j (by omega) hk
    obtain ⟨i, hi⟩ : ∃ i, (xs m)[j]? = some i := ⟨(xs m)[j], List.getElem?_eq_getElem (by omega)⟩
    rw [settleAll_next _ _ _ _ _ hi]
    have := next_waits (h := h) (n := n) hq hm hi
    exact ih.settle this.1 this.2
theorem wk_fst4 {h : Hs} {l : List Pay} (g : GoodP h l) {xs : Nat → List Nat} {n : Nat → Nat} (hq : ∀ b : Nat, b < 4 → IsQueue l (b : Int) (xs b)) : ∀ m, m ≤ 4 → Wk ⟨h, l, []⟩ (settleAll (fst4 xs n m) ⟨h, l, []⟩)
  | 0, _ => Wk.start g
  | m + 1, hm => by
    have ih := wk_fst4 g (n := n) hq m (by omega)
    have h1 := wk_part g (n := n) hq m (by omega) (min (n m) (xs m).length) (by omega) ih
    have e : (xs m).take (min (n m) (xs m).length) = (xs m).take (n m) := by
      rw [← List.take_eq_take_min]
    rw [e] at h1
    exact h1
theorem kept_step {W w1 X w3 w4 : World} {g : Nat} {v v' : Value} (hK : W.grownBy w1 (some g)) (hd : ∀ x, v.ownBlock = some x → W.heap.size ≤ x) (hX : Below w1.heap.size w1 X) (hgr : X.grownBy w3 v.ownBlock) (hv : ∀ x, v'.ownBlock = some x → v.ownBlock = some x ∨ X.heap.size ≤ x) (hgr4 : w3.grownBy w4 (some g)) :
    W.grownBy w4 (some g) ∧ ∀ x, v'.ownBlock = some x → W.heap.size ≤ x := by
  have h1 := grown_below hK hX
  refine ⟨⟨hgr4.os.trans (hgr.os.trans h1.os), hgr4.tape.trans (hgr.tape.trans h1.tape), hgr4.output.trans (hgr.output.trans h1.output), Nat.le_trans h1.size (Nat.le_trans hgr.size hgr4.size), fun k hk hne => ?_⟩, fun x hx => ?_⟩
  · have hkX := Nat.lt_of_lt_of_le hk h1.size
    refine (hgr4.block k (Nat.lt_of_lt_of_le hkX hgr.size) hne).trans ((hgr.block k hkX (fun e => ?_)).trans (h1.block k hk hne))
    have := hd k e.symm
    omega
  · rcases hv x hx with h | h
    · exact hd x h
    · have := h1.size; omega
theorem lsNone (w : World) (v : Value) (wr : World) : LsAt w v [] wr (.slice none 0 0) := ⟨none, 0, rfl, ⟨by simp [nats], by simp [maxLen], by simp [nats], fun _ => rfl, fun h => absurd h (by simp [nats])⟩, fun h => absurd h (by simp)⟩
end Go.Proofs.Ytggfdkkhlokmlaa
