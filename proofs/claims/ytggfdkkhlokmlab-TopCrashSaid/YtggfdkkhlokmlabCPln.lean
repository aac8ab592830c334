/- A sum that is sent: what becomes of a house; far from its bounds: plain Lean. -/
import Derived.Test.YtggfdkkhlokmlabCLed
import Derived.Test.YtggfdkkhlokmlabCMem
namespace Go.Proofs.Ytggfdkkhlokmlab
open Go.RowKit

theorem move_lim (h : Hs) (frm dst amt : Int) : (h.move frm dst amt).lim = h.lim := by unfold Hs.move; split <;> rfl
theorem move_cr (h : Hs) (frm dst amt : Int) : (h.move frm dst amt).cr = h.cr := by unfold Hs.move; split <;> rfl
theorem move_next (h : Hs) (frm dst amt : Int) : (h.move frm dst amt).next = h.next := by unfold Hs.move; split <;> rfl
theorem move_eq {h : Hs} {frm dst amt : Int} (hs : Sends frm dst amt) : h.move frm dst amt = ((h.setHas frm (h.has frm - amt)).setHas dst (h.has dst + amt)).setSent frm dst (h.sent frm dst + amt) := by simp [Hs.move, sends_true.2 hs]
theorem move_has {h : Hs} {frm dst amt : Int} (hs : Sends frm dst amt) (i : Int) : (h.move frm dst amt).has i = if i = dst then h.has dst + amt else if i = frm then h.has frm - amt else h.has i := by
 rw [move_eq hs]; rfl
theorem move_sent {h : Hs} {frm dst amt : Int} (hs : Sends frm dst amt) (i k : Int) : (h.move frm dst amt).sent i k = if i = frm ∧ k = dst then h.sent frm dst + amt else h.sent i k := by
 rw [move_eq hs]; rfl
theorem mayB_true {h : Hs} {frm dst amt : Int} (hm : mayB h frm dst amt = true) : Sends frm dst amt ∧ amt ≤ h.has frm + h.cr frm ∧ (h.lim frm dst < 0 ∨ h.sent frm dst - h.sent dst frm + amt ≤ h.lim frm dst) := by
 simp only [mayB, Bool.and_eq_true, Bool.or_eq_true, decide_eq_true_eq] at hm
 exact ⟨sends_true.1 hm.1, hm.2.1, hm.2.2⟩
end Go.Proofs.Ytggfdkkhlokmlab

namespace Go.Proofs.Ytggfdkkhlokmlab

def payAt (l : List Pay) (i : Nat) : Pay := l.getD i default
theorem payAt_some {l : List Pay} {i : Nat} {p : Pay} (h : l[i]? = some p) : payAt l i = p := by simp [payAt, List.getD, h]
theorem payAt_get {l : List Pay} {i : Nat} (h : i < l.length) : l[i]? = some (payAt l i) := by simp [payAt, List.getD, h]
theorem payAt_mem {l : List Pay} {i : Nat} (h : i < l.length) : payAt l i ∈ l := List.mem_of_getElem? (payAt_get h)
/-- Does payment i wait, and is it the bank's? -/
def waitsB (l : List Pay) (bank : Int) (i : Nat) : Bool := (payAt l i).st == 1 && (payAt l i).frm == bank
def waits (l : List Pay) (bank : Int) : List Nat := (List.range l.length).filter (waitsB l bank)
/-- By class, then by place. -/
def leP (p q : Pay) : Bool := decide (p.cls < q.cls) || (p.cls == q.cls && decide (p.seq ≤ q.seq))
def leB (l : List Pay) (i k : Nat) : Bool := leP (payAt l i) (payAt l k)
structure IsQueue (l : List Pay) (bank : Int) (xs : List Nat) : Prop where
 perm : xs.Perm (waits l bank)
 sorted : xs.Pairwise fun i k => leB l i k = true
noncomputable def ofL (l : List Pay) (bank : Int) : List Nat := (waits l bank).mergeSort (leB l)
theorem leP_trans (p q r : Pay) (h1 : leP p q = true) (h2 : leP q r = true) : leP p r = true := by
 simp only [leP, Bool.or_eq_true, Bool.and_eq_true, decide_eq_true_eq, beq_iff_eq] at *; omega
theorem leP_total (p q : Pay) : (leP p q || leP q p) = true := by
 simp only [leP, Bool.or_eq_true, Bool.and_eq_true, decide_eq_true_eq, beq_iff_eq]; omega
theorem ofL_is (l : List Pay) (bank : Int) : IsQueue l bank (ofL l bank) :=
 ⟨List.mergeSort_perm _ _, List.pairwise_mergeSort (le := leB l) (fun i j k h1 h2 => leP_trans (payAt l i) (payAt l j) (payAt l k) h1 h2) (fun i j => leP_total (payAt l i) (payAt l j)) _⟩
theorem waits_mem {l : List Pay} {bank : Int} {i : Nat} : i ∈ waits l bank ↔ i < l.length ∧ (payAt l i).st = 1 ∧ (payAt l i).frm = bank := by
 simp [waits, waitsB]
theorem IsQueue.mem {l : List Pay} {bank : Int} {xs : List Nat} (h : IsQueue l bank xs) {i : Nat} : i ∈ xs ↔ i < l.length ∧ (payAt l i).st = 1 ∧ (payAt l i).frm = bank := by
 rw [h.perm.mem_iff, waits_mem]
theorem waits_nodup (l : List Pay) (bank : Int) : (waits l bank).Nodup := List.nodup_range.filter _
theorem IsQueue.nodup {l : List Pay} {bank : Int} {xs : List Nat} (h : IsQueue l bank xs) : xs.Nodup := h.perm.nodup_iff.2 (waits_nodup l bank)
theorem waits_len (l : List Pay) (bank : Int) : (waits l bank).length ≤ l.length := by
 have := List.length_filter_le (waitsB l bank) (List.range l.length)
 simpa [waits] using this
theorem IsQueue.len {l : List Pay} {bank : Int} {xs : List Nat} (h : IsQueue l bank xs) : xs.length ≤ l.length := by
 rw [h.perm.length_eq]; exact waits_len l bank
theorem seq_inj {l : List Pay} (hn : (l.map (·.seq)).Nodup) {i k : Nat} (hi : i < l.length) (hk : k < l.length) (h : (payAt l i).seq = (payAt l k).seq) : i = k := by
 have h1 : (l.map (·.seq))[i]? = (l.map (·.seq))[k]? := by simp [payAt_get hi, payAt_get hk, h]
 exact (List.getElem?_inj (by simpa using hi) hn).1 h1
theorem IsQueue.unique {l : List Pay} {bank : Int} {xs ys : List Nat} (hn : (l.map (·.seq)).Nodup) (h : IsQueue l bank xs) (h' : IsQueue l bank ys) : xs = ys := by
 refine List.Perm.eq_of_pairwise ?_ h.sorted h'.sorted (h.perm.trans h'.perm.symm)
 intro i k hi hk h1 h2
 have hi := h.mem.1 hi
 have hk := h'.mem.1 hk
 refine seq_inj hn hi.1 hk.1 ?_
 simp only [leB, leP, Bool.or_eq_true, Bool.and_eq_true, decide_eq_true_eq, beq_iff_eq] at h1 h2; omega
theorem IsQueue.eq {l : List Pay} {bank : Int} {xs : List Nat} (hn : (l.map (·.seq)).Nodup) (h : IsQueue l bank xs) : xs = ofL l bank := h.unique hn (ofL_is l bank)
theorem ofL_mem {l : List Pay} {bank : Int} {i : Nat} : i ∈ ofL l bank ↔ i < l.length ∧ (payAt l i).st = 1 ∧ (payAt l i).frm = bank := (ofL_is l bank).mem
theorem ofL_len (l : List Pay) (bank : Int) : (ofL l bank).length ≤ l.length := (ofL_is l bank).len

/-! ### settling -/
def Pay.done (p : Pay) : Pay := { p with st := 2 }
def settled (l : List Pay) (i : Nat) : List Pay := l.set i (payAt l i).done
theorem settled_len (l : List Pay) (i : Nat) : (settled l i).length = l.length := by simp [settled]
theorem settled_same {l : List Pay} {i : Nat} (h : i < l.length) : payAt (settled l i) i = (payAt l i).done := by
 apply payAt_some; simp [settled, h]
theorem settled_ne {l : List Pay} {i k : Nat} (h : i ≠ k) : payAt (settled l i) k = payAt l k := by
 simp [payAt, settled, List.getD, List.getElem?_set_ne h]
theorem settled_key (l : List Pay) (i k : Nat) : (payAt (settled l i) k).frm = (payAt l k).frm ∧ (payAt (settled l i) k).to = (payAt l k).to ∧ (payAt (settled l i) k).amt = (payAt l k).amt ∧ (payAt (settled l i) k).cls = (payAt l k).cls ∧ (payAt (settled l i) k).seq = (payAt l k).seq := by
 by_cases h : i = k
 ·subst h
  by_cases hl : i < l.length
  ·rw [settled_same hl]; simp [Pay.done]
  ·have : settled l i = l := by simp [settled, List.set_eq_of_length_le (by omega : l.length ≤ i)]
   rw [this]; simp
 ·rw [settled_ne h]; simp
theorem settled_seqs (l : List Pay) (i : Nat) : (settled l i).map (·.seq) = l.map (·.seq) := by
 apply List.ext_getElem?
 intro k
 by_cases hk : k < l.length
 ·rw [List.getElem?_map, List.getElem?_map, payAt_get hk, payAt_get (by rw [settled_len]; exact hk)]
  simp [(settled_key l i k).2.2.2.2]
 ·rw [List.getElem?_eq_none (by simp [settled_len]; omega), List.getElem?_eq_none (by simp; omega)]
theorem settled_leB (l : List Pay) (i j k : Nat) : leB (settled l i) j k = leB l j k := by
 obtain ⟨_, _, _, h1, h2⟩ := settled_key l i j
 obtain ⟨_, _, _, h3, h4⟩ := settled_key l i k
 simp [leB, leP, h1, h2, h3, h4]
theorem settled_waitsB {l : List Pay} {i : Nat} (h : i < l.length) (b : Int) (k : Nat) : waitsB (settled l i) b k = (waitsB l b k && k != i) := by
 by_cases hk : i = k
 ·subst hk
  simp [waitsB, settled_same h, Pay.done]
 ·have : (k != i) = true := by simp; omega
  simp [waitsB, settled_ne hk, this]
theorem settled_waits {l : List Pay} {i : Nat} (h : i < l.length) (b : Int) : waits (settled l i) b = (waits l b).filter (· != i) := by
 simp only [waits, settled_len, List.filter_filter]
 apply List.filter_congr
 intro k _
 rw [settled_waitsB h, Bool.and_comm]
theorem ofL_settled {l : List Pay} {b : Int} {i : Nat} {xs : List Nat} (hn : (l.map (·.seq)).Nodup) (h : ofL l b = i :: xs) : ofL (settled l i) b = xs := by
 have hq := ofL_is l b
 rw [h] at hq
 have hi := (hq.mem (i := i)).1 (by simp)
 symm
 refine IsQueue.eq (by rw [settled_seqs]; exact hn) ⟨?_, ?_⟩
 ·rw [settled_waits hi.1, ← List.Nodup.erase_eq_filter (waits_nodup l b)]
  have := hq.perm.erase i
  simpa using this
 ·have := hq.sorted
  simp only [List.pairwise_cons] at this
  exact this.2.imp fun {j k} hjk => by rw [settled_leB]; exact hjk
/-! ### sweeping -/
/-- A house on its way, and what was done. -/
structure St where
 h : Hs
 l : List Pay
 d : List Nat
def St.settle (S : St) (i : Nat) : St := ⟨S.h.move (payAt S.l i).frm (payAt S.l i).to (payAt S.l i).amt, settled S.l i, S.d ++ [i]⟩
def St.may (S : St) (i : Nat) : Bool := mayB S.h (payAt S.l i).frm (payAt S.l i).to (payAt S.l i).amt
noncomputable def visitN : Nat → Int → St → St
 | 0, _, S => S
 | n + 1, b, S => match ofL S.l b with
  | [] => S
  | i :: _ => if S.may i then visitN n b (S.settle i) else S
/-- A bank does of its first payments as many as it may. -/
noncomputable def visit (b : Int) (S : St) : St := visitN (ofL S.l b).length b S
theorem visit_nil {b : Int} {S : St} (h : ofL S.l b = []) : visit b S = S := by simp [visit, h, visitN]
theorem visit_no {b : Int} {S : St} {i : Nat} {xs : List Nat} (h : ofL S.l b = i :: xs) (hm : S.may i = false) : visit b S = S := by simp [visit, h, visitN, hm]
theorem visit_yes {b : Int} {S : St} {i : Nat} {xs : List Nat} (hn : (S.l.map (·.seq)).Nodup) (h : ofL S.l b = i :: xs) (hm : S.may i = true) : visit b S = visit b (S.settle i) := by
 have h2 : ofL (S.settle i).l b = xs := ofL_settled hn h
 simp [visit, h, visitN, hm, h2]
/-- Bank b may not do the first of its payments. -/
def Idle (b : Int) (S : St) : Prop := ∀ i xs, ofL S.l b = i :: xs → S.may i = false
theorem idle_visit {b : Int} {S : St} (h : Idle b S) : visit b S = S := by
 cases hq : ofL S.l b with
 | nil => exact visit_nil hq
 | cons i xs => exact visit_no hq (h i xs hq)
/-- The sweep's induction: what holds at the start and is kept by each settling holds behind a visit. -/
theorem visit_ind (P : St → Prop) (hn : ∀ S, P S → (S.l.map (·.seq)).Nodup) (b : Int) (hs : ∀ S i xs, P S → ofL S.l b = i :: xs → S.may i = true → P (S.settle i)) : ∀ (n : Nat) (S : St), (ofL S.l b).length = n → P S → P (visit b S) ∧ Idle b (visit b S)
 | 0, S, hl, hS => by
  have := List.length_eq_zero_iff.1 hl
  rw [visit_nil this]
  exact ⟨hS, fun i xs h => by rw [this] at h; cases h⟩
 | n + 1, S, hl, hS => by
  cases hq : ofL S.l b with
  | nil => rw [hq] at hl; cases hl
  | cons i xs =>
   cases hm : S.may i with
   | false =>
    rw [visit_no hq hm]
    exact ⟨hS, fun j ys h => by rw [hq] at h; cases h; exact hm⟩
   | true =>
    rw [visit_yes (hn S hS) hq hm]
    have h2 : ofL (S.settle i).l b = xs := ofL_settled (hn S hS) hq
    exact visit_ind P hn b hs n (S.settle i) (by rw [h2]; rw [hq] at hl; simpa using hl) (hs S i xs hS hq hm)
theorem settle_seqs (S : St) (i : Nat) : (S.settle i).l.map (·.seq) = S.l.map (·.seq) := settled_seqs S.l i
/-- The first k visits, from bank 0 on, round and round. -/
noncomputable def visits : Nat → St → St
 | 0, S => S
 | k + 1, S => visit ((k % 4 : Nat) : Int) (visits k S)
def Rests (S : St) : Prop := ∀ b : Nat, b < 4 → Idle (b : Int) S
theorem visits_rest {S : St} {k : Nat} (h : Rests (visits k S)) : ∀ m, visits (k + m) S = visits k S
 | 0 => rfl
 | m + 1 => by
  have ih := visits_rest h m
  show visit _ (visits (k + m) S) = _
  rw [ih]
  exact idle_visit (h _ (Nat.mod_lt _ (by omega)))
theorem visits_unique {S : St} {k m : Nat} (h : Rests (visits k S)) (h' : Rests (visits m S)) : visits k S = visits m S := by
 rcases Nat.le_total k m with hkm | hkm
 ·have := visits_rest h (m - k)
  rw [show k + (m - k) = m from by omega] at this
  exact this.symm
 ·have := visits_rest h' (k - m)
  rw [show m + (k - m) = k from by omega] at this
  exact this
theorem visits_ind (P : St → Prop) (hn : ∀ S, P S → (S.l.map (·.seq)).Nodup) (hs : ∀ (b : Nat) S i xs, b < 4 → P S → ofL S.l (b : Int) = i :: xs → S.may i = true → P (S.settle i)) (S : St) (hS : P S) : ∀ k, P (visits k S)
 | 0 => hS
 | k + 1 => (visit_ind P hn _ (fun T i xs hT h hm => hs (k % 4) T i xs (Nat.mod_lt _ (by omega)) hT h hm) _ _ rfl (visits_ind P hn hs S hS k)).1
theorem visits_seqs (S : St) (hn : (S.l.map (·.seq)).Nodup) (k : Nat) : (visits k S).l.map (·.seq) = S.l.map (·.seq) :=
 visits_ind (fun T => T.l.map (·.seq) = S.l.map (·.seq)) (fun T hT => by rw [hT]; exact hn) (fun b T i xs _ hT _ _ => by rw [settle_seqs]; exact hT) S rfl k

/-! ### the end -/
/-- How many payments wait. -/
def waiting (l : List Pay) : Nat := l.countP (·.st == 1)
theorem waiting_settled {l : List Pay} {i : Nat} (h : i < l.length) (h1 : (payAt l i).st = 1) : waiting l = waiting (settled l i) + 1 := by
 have hg : l[i] = payAt l i := by
  have := payAt_get h
  rw [List.getElem?_eq_getElem h] at this
  exact Option.some.inj this
 have := List.countP_set (p := fun p : Pay => p.st == 1) (l := l) (i := i) (a := (payAt l i).done) h
 have hpos : 0 < l.countP (·.st == 1) := List.countP_pos_iff.2 ⟨payAt l i, payAt_mem h, by simp [h1]⟩
 simp only [waiting, settled]
 rw [this, hg]
 simp [Pay.done, h1]
 omega
theorem waiting_le (l : List Pay) : waiting l ≤ l.length := List.countP_le_length
/-- A visit settles some, or the bank is idle. -/
theorem visit_waiting (b : Int) (S : St) (hn : (S.l.map (·.seq)).Nodup) : waiting (visit b S).l ≤ waiting S.l ∧ (waiting (visit b S).l = waiting S.l → Idle b S ∧ visit b S = S) := by
 cases hq : ofL S.l b with
 | nil => rw [visit_nil hq]; exact ⟨Nat.le_refl _, fun _ => ⟨(fun i xs h => by rw [hq] at h; cases h), rfl⟩⟩
 | cons i xs =>
  cases hm : S.may i with
  | false => rw [visit_no hq hm]; exact ⟨Nat.le_refl _, fun _ => ⟨(fun j ys h => by rw [hq] at h; cases h; exact hm), rfl⟩⟩
  | true =>
   rw [visit_yes hn hq hm]
   have hi := (ofL_mem (l := S.l) (bank := b) (i := i)).1 (by rw [hq]; simp)
   have h1 : waiting S.l = waiting (S.settle i).l + 1 := waiting_settled hi.1 hi.2.1
   have h2 := (visit_ind (fun T => waiting T.l ≤ waiting (S.settle i).l ∧ (T.l.map (·.seq)).Nodup) (fun T hT => hT.2) b (fun T j ys hT hj _ => by
    have hj := (ofL_mem (l := T.l) (bank := b) (i := j)).1 (by rw [hj]; simp)
    have h3 : waiting T.l = waiting (T.settle j).l + 1 := waiting_settled hj.1 hj.2.1
    exact ⟨by have := hT.1; omega, by rw [settle_seqs]; exact hT.2⟩) _ (S.settle i) rfl ⟨Nat.le_refl _, by rw [settle_seqs]; exact hn⟩).1
   exact ⟨by omega, fun h => by omega⟩
theorem round_waiting (S : St) (hn : (S.l.map (·.seq)).Nodup) (k : Nat) : ∀ m, waiting (visits (k + m) S).l ≤ waiting (visits k S).l ∧ (waiting (visits (k + m) S).l = waiting (visits k S).l → visits (k + m) S = visits k S ∧ ∀ j, j < m → Idle (((k + j) % 4 : Nat) : Int) (visits k S))
 | 0 => ⟨Nat.le_refl _, fun _ => ⟨rfl, fun j hj => by omega⟩⟩
 | m + 1 => by
  obtain ⟨h1, h2⟩ := round_waiting S hn k m
  obtain ⟨h3, h4⟩ := visit_waiting (((k + m) % 4 : Nat) : Int) (visits (k + m) S) (by rw [visits_seqs S hn]; exact hn)
  have e : visits (k + (m + 1)) S = visit (((k + m) % 4 : Nat) : Int) (visits (k + m) S) := rfl
  rw [e]
  refine ⟨by omega, fun h => ?_⟩
  obtain ⟨h5, h6⟩ := h2 (by omega)
  obtain ⟨h7, h8⟩ := h4 (by omega)
  refine ⟨by rw [h8, h5], fun j hj => ?_⟩
  by_cases e : j = m
  ·subst e; rw [h5] at h7; exact h7
  ·exact h6 j (by omega)
theorem rests_of_round (S : St) (hn : (S.l.map (·.seq)).Nodup) (k : Nat) (h : waiting (visits (k + 4) S).l = waiting (visits k S).l) : Rests (visits k S) := by
 obtain ⟨_, h2⟩ := round_waiting S hn k 4
 obtain ⟨_, h6⟩ := h2 h
 intro b hb
 have := h6 ((b + 4 - k % 4) % 4) (Nat.mod_lt _ (by omega))
 rw [show (k + (b + 4 - k % 4) % 4) % 4 = b from by omega] at this
 exact this
noncomputable def sweepS (S : St) : St := visits (4 * S.l.length) S
theorem sweep_rests (S : St) (hn : (S.l.map (·.seq)).Nodup) : Rests (sweepS S) := by
 have key : ∀ r, waiting (visits (4 * r) S).l + r ≤ S.l.length ∨ Rests (visits (4 * r) S) := by
  intro r
  induction r with
  | zero => exact .inl (by simpa [visits] using waiting_le S.l)
  | succ r ih =>
   rcases ih with ih | ih
   ·obtain ⟨h1, _⟩ := round_waiting S hn (4 * r) 4
    rw [show 4 * (r + 1) = 4 * r + 4 from by omega]
    by_cases e : waiting (visits (4 * r + 4) S).l = waiting (visits (4 * r) S).l
    ·have := rests_of_round S hn (4 * r) e
     rw [visits_rest this 4]
     exact .inr this
    ·exact .inl (by omega)
   ·rw [show 4 * (r + 1) = 4 * r + 4 from by omega, visits_rest ih 4]
    exact .inr ih
 rcases key S.l.length with h | h
 ·have hw : waiting (visits (4 * S.l.length) S).l = 0 := by omega
  obtain ⟨h1, _⟩ := round_waiting S hn (4 * S.l.length) 4
  exact rests_of_round S hn _ (by omega)
 ·exact h
theorem sweep_of_rests {S : St} (hn : (S.l.map (·.seq)).Nodup) {k : Nat} (h : Rests (visits k S)) : visits k S = sweepS S := visits_unique h (sweep_rests S hn)
end Go.Proofs.Ytggfdkkhlokmlab

namespace Go.Proofs.Ytggfdkkhlokmlab

/-! ### many moves -/
def moves (l : List Pay) : List Nat → Hs → Hs
 | [], h => h
 | i :: xs, h => moves l xs (h.move (payAt l i).frm (payAt l i).to (payAt l i).amt)
theorem moves_app (l : List Pay) : ∀ (xs ys : List Nat) (h : Hs), moves l (xs ++ ys) h = moves l ys (moves l xs h)
 | [], _, _ => rfl
 | _ :: xs, ys, _ => moves_app l xs ys _
/-- What the payments xs send from b to t; from b; to t. -/
def tot (l : List Pay) (b t : Int) (xs : List Nat) : Int := (xs.map fun i => if (payAt l i).frm = b ∧ (payAt l i).to = t then (payAt l i).amt else 0).sum
def outs (l : List Pay) (b : Int) (xs : List Nat) : Int := (xs.map fun i => if (payAt l i).frm = b then (payAt l i).amt else 0).sum
def ins (l : List Pay) (t : Int) (xs : List Nat) : Int := (xs.map fun i => if (payAt l i).to = t then (payAt l i).amt else 0).sum
theorem tot_app (l : List Pay) (b t : Int) (xs ys : List Nat) : tot l b t (xs ++ ys) = tot l b t xs + tot l b t ys := by simp [tot]
theorem outs_app (l : List Pay) (b : Int) (xs ys : List Nat) : outs l b (xs ++ ys) = outs l b xs + outs l b ys := by simp [outs]
theorem ins_app (l : List Pay) (t : Int) (xs ys : List Nat) : ins l t (xs ++ ys) = ins l t xs + ins l t ys := by simp [ins]
/-- Every payment of xs may be sent. -/
def Snd (l : List Pay) (xs : List Nat) : Prop := ∀ i ∈ xs, Sends (payAt l i).frm (payAt l i).to (payAt l i).amt
theorem sum_nonneg {α : Type} (f : α → Int) : ∀ xs : List α, (∀ i ∈ xs, 0 ≤ f i) → 0 ≤ (xs.map f).sum
 | [], _ => by simp
 | i :: xs, h => by
  have h1 := h i (by simp)
  have h2 := sum_nonneg f xs fun j hj => h j (by simp [hj])
  simp only [List.map_cons, List.sum_cons]
  omega
theorem sum_zero {α : Type} (f : α → Int) : ∀ xs : List α, (∀ i ∈ xs, f i = 0) → (xs.map f).sum = 0
 | [], _ => by simp
 | i :: xs, h => by
  have h1 := h i (by simp)
  have h2 := sum_zero f xs fun j hj => h j (by simp [hj])
  simp only [List.map_cons, List.sum_cons]
  omega
theorem tot_pos {l : List Pay} (b t : Int) {xs : List Nat} (h : Snd l xs) : 0 ≤ tot l b t xs :=
 sum_nonneg _ _ fun i hi => by have := (h i hi).a0; split <;> omega
theorem ins_pos {l : List Pay} (t : Int) {xs : List Nat} (h : Snd l xs) : 0 ≤ ins l t xs :=
 sum_nonneg _ _ fun i hi => by have := (h i hi).a0; split <;> omega
theorem moves_sent {l : List Pay} : ∀ (xs : List Nat) (h : Hs), Snd l xs → ∀ b t, (moves l xs h).sent b t = h.sent b t + tot l b t xs
 | [], h, _, b, t => by simp [moves, tot]
 | i :: xs, h, hx, b, t => by
  have hs := hx i (by simp)
  have ih := moves_sent xs (h.move (payAt l i).frm (payAt l i).to (payAt l i).amt) (fun j hj => hx j (by simp [hj])) b t
  simp only [moves]
  rw [ih, move_sent hs]
  simp only [tot, List.map_cons, List.sum_cons]
  by_cases e : b = (payAt l i).frm ∧ t = (payAt l i).to
  ·obtain ⟨rfl, rfl⟩ := e
   simp; omega
  ·rw [if_neg e, if_neg (fun h' => e ⟨h'.1.symm, h'.2.symm⟩)]; omega
theorem moves_has {l : List Pay} : ∀ (xs : List Nat) (h : Hs), Snd l xs → ∀ b, (moves l xs h).has b = h.has b - outs l b xs + ins l b xs
 | [], h, _, b => by simp [moves, outs, ins]
 | i :: xs, h, hx, b => by
  have hs := hx i (by simp)
  have ih := moves_has xs (h.move (payAt l i).frm (payAt l i).to (payAt l i).amt) (fun j hj => hx j (by simp [hj])) b
  simp only [moves]
  rw [ih, move_has hs]
  simp only [outs, ins, List.map_cons, List.sum_cons]
  have hne := hs.ne
  by_cases e : b = (payAt l i).to
  ·subst e
   rw [if_pos rfl, if_neg (fun h' => hne h'), if_pos rfl]; omega
  ·by_cases e' : b = (payAt l i).frm
   ·subst e'
    rw [if_neg e, if_pos rfl, if_pos rfl, if_neg (fun h' => e h'.symm)]; omega
   ·rw [if_neg e, if_neg e', if_neg (fun h' => e' h'.symm), if_neg (fun h' => e h'.symm)]; omega
theorem moves_lim (l : List Pay) : ∀ (xs : List Nat) (h : Hs), (moves l xs h).lim = h.lim
 | [], _ => rfl
 | _ :: xs, _ => (moves_lim l xs _).trans (move_lim _ _ _ _)
theorem moves_cr (l : List Pay) : ∀ (xs : List Nat) (h : Hs), (moves l xs h).cr = h.cr
 | [], _ => rfl
 | _ :: xs, _ => (moves_cr l xs _).trans (move_cr _ _ _ _)
theorem moves_next (l : List Pay) : ∀ (xs : List Nat) (h : Hs), (moves l xs h).next = h.next
 | [], _ => rfl
 | _ :: xs, _ => (moves_next l xs _).trans (move_next _ _ _ _)
/-! ### how many of each bank -/
/-- The first n payments of each bank's queue, bank by bank. -/
noncomputable def firsts (l : List Pay) (n : Int → Nat) : Nat → List Nat
 | 0 => []
 | k + 1 => firsts l n k ++ (ofL l (k : Int)).take (n (k : Int))
noncomputable def after (l : List Pay) (n : Int → Nat) (h : Hs) : Hs := moves l (firsts l n 4) h
/-- The payments that a house may have. -/
def AllPay (l : List Pay) : Prop := ∀ i, i < l.length → Sends (payAt l i).frm (payAt l i).to (payAt l i).amt
theorem snd_take {l : List Pay} (hl : AllPay l) (b : Int) (n : Nat) : Snd l ((ofL l b).take n) := fun i hi => hl i (ofL_mem.1 (List.mem_of_mem_take hi)).1
theorem snd_firsts {l : List Pay} (hl : AllPay l) (n : Int → Nat) : ∀ k, Snd l (firsts l n k)
 | 0 => fun i hi => by simp [firsts] at hi
 | k + 1 => fun i hi => by
  rcases List.mem_append.1 hi with h | h
  ·exact snd_firsts hl n k i h
  ·exact snd_take hl _ _ i h
/-- A bank's own payments. -/
theorem outs_take_ne (l : List Pay) {b c : Int} (h : b ≠ c) (n : Nat) : outs l b ((ofL l c).take n) = 0 :=
 sum_zero _ _ fun i hi => by
  have := (ofL_mem.1 (List.mem_of_mem_take hi)).2.2
  rw [if_neg (by rw [this]; exact fun e => h e.symm)]
theorem tot_take_ne (l : List Pay) {b c : Int} (t : Int) (h : b ≠ c) (n : Nat) : tot l b t ((ofL l c).take n) = 0 :=
 sum_zero _ _ fun i hi => by
  have := (ofL_mem.1 (List.mem_of_mem_take hi)).2.2
  rw [if_neg (fun e => h (by rw [← e.1, this]))]
theorem outs_firsts (l : List Pay) (n : Int → Nat) {b : Int} (h : 0 ≤ b ∧ b < 4) : outs l b (firsts l n 4) = outs l b ((ofL l b).take (n b)) := by
 have e0 : outs l b [] = 0 := rfl
 simp only [firsts, List.nil_append, outs_app]
 rcases four h with rfl | rfl | rfl | rfl
 ·rw [outs_take_ne l (c := ((1 : Nat) : Int)) (by decide), outs_take_ne l (c := ((2 : Nat) : Int)) (by decide), outs_take_ne l (c := ((3 : Nat) : Int)) (by decide)]; simp
 ·rw [outs_take_ne l (c := ((0 : Nat) : Int)) (by decide), outs_take_ne l (c := ((2 : Nat) : Int)) (by decide), outs_take_ne l (c := ((3 : Nat) : Int)) (by decide)]; simp
 ·rw [outs_take_ne l (c := ((0 : Nat) : Int)) (by decide), outs_take_ne l (c := ((1 : Nat) : Int)) (by decide), outs_take_ne l (c := ((3 : Nat) : Int)) (by decide)]; simp
 ·rw [outs_take_ne l (c := ((0 : Nat) : Int)) (by decide), outs_take_ne l (c := ((1 : Nat) : Int)) (by decide), outs_take_ne l (c := ((2 : Nat) : Int)) (by decide)]; simp
theorem tot_firsts (l : List Pay) (n : Int → Nat) {b : Int} (t : Int) (h : 0 ≤ b ∧ b < 4) : tot l b t (firsts l n 4) = tot l b t ((ofL l b).take (n b)) := by
 simp only [firsts, List.nil_append, tot_app]
 rcases four h with rfl | rfl | rfl | rfl
 ·rw [tot_take_ne l (c := ((1 : Nat) : Int)) t (by decide), tot_take_ne l (c := ((2 : Nat) : Int)) t (by decide), tot_take_ne l (c := ((3 : Nat) : Int)) t (by decide)]; simp
 ·rw [tot_take_ne l (c := ((0 : Nat) : Int)) t (by decide), tot_take_ne l (c := ((2 : Nat) : Int)) t (by decide), tot_take_ne l (c := ((3 : Nat) : Int)) t (by decide)]; simp
 ·rw [tot_take_ne l (c := ((0 : Nat) : Int)) t (by decide), tot_take_ne l (c := ((1 : Nat) : Int)) t (by decide), tot_take_ne l (c := ((3 : Nat) : Int)) t (by decide)]; simp
 ·rw [tot_take_ne l (c := ((0 : Nat) : Int)) t (by decide), tot_take_ne l (c := ((1 : Nat) : Int)) t (by decide), tot_take_ne l (c := ((2 : Nat) : Int)) t (by decide)]; simp
theorem ins_firsts (l : List Pay) (n : Int → Nat) (t : Int) : ins l t (firsts l n 4) = ins l t ((ofL l 0).take (n 0)) + ins l t ((ofL l 1).take (n 1)) + ins l t ((ofL l 2).take (n 2)) + ins l t ((ofL l 3).take (n 3)) := by
 simp only [firsts, List.nil_append, ins_app]; rfl
theorem after_has {l : List Pay} (hl : AllPay l) (n : Int → Nat) (h : Hs) {b : Int} (hb : 0 ≤ b ∧ b < 4) :
  (after l n h).has b = h.has b - outs l b ((ofL l b).take (n b)) + (ins l b ((ofL l 0).take (n 0)) + ins l b ((ofL l 1).take (n 1)) + ins l b ((ofL l 2).take (n 2)) + ins l b ((ofL l 3).take (n 3))) := by
 rw [after, moves_has _ _ (snd_firsts hl n 4), outs_firsts l n hb, ins_firsts]
theorem after_sent {l : List Pay} (hl : AllPay l) (n : Int → Nat) (h : Hs) {b : Int} (t : Int) (hb : 0 ≤ b ∧ b < 4) : (after l n h).sent b t = h.sent b t + tot l b t ((ofL l b).take (n b)) := by
 rw [after, moves_sent _ _ (snd_firsts hl n 4), tot_firsts l n t hb]
theorem after_lim (l : List Pay) (n : Int → Nat) (h : Hs) : (after l n h).lim = h.lim := moves_lim _ _ _
theorem after_cr (l : List Pay) (n : Int → Nat) (h : Hs) : (after l n h).cr = h.cr := moves_cr _ _ _
theorem after_next (l : List Pay) (n : Int → Nat) (h : Hs) : (after l n h).next = h.next := moves_next _ _ _

/-! ### standing fine -/
/-- May the bank stand as it does in x, if it has done n? -/
structure Stands (x : Hs) (b : Int) : Prop where
 left : 0 ≤ x.has b + x.cr b
 lim : ∀ t, 0 ≤ t → t < 4 → 0 ≤ x.lim b t → x.sent b t - x.sent t b ≤ x.lim b t
def Fine (x : Hs) (b : Int) (n : Nat) : Prop := n = 0 ∨ Stands x b
theorem take_split {α : Type} (xs : List α) {n m : Nat} (h : n ≤ m) : ∃ ys, xs.take m = xs.take n ++ ys := by
 refine ⟨(xs.take m).drop n, ?_⟩
 have := (List.take_append_drop n (xs.take m)).symm
 rw [List.take_take, Nat.min_eq_left h] at this
 exact this
theorem ins_mono {l : List Pay} (hl : AllPay l) (c t : Int) {n m : Nat} (h : n ≤ m) : ins l t ((ofL l c).take n) ≤ ins l t ((ofL l c).take m) := by
 obtain ⟨ys, e⟩ := take_split (ofL l c) h
 have : Snd l ys := fun i hi => snd_take hl c m i (by rw [e]; simp [hi])
 have := ins_pos t this
 rw [e, ins_app]; omega
theorem tot_mono {l : List Pay} (hl : AllPay l) (c b t : Int) {n m : Nat} (h : n ≤ m) : tot l b t ((ofL l c).take n) ≤ tot l b t ((ofL l c).take m) := by
 obtain ⟨ys, e⟩ := take_split (ofL l c) h
 have : Snd l ys := fun i hi => snd_take hl c m i (by rw [e]; simp [hi])
 have := tot_pos b t this
 rw [e, tot_app]; omega
/-- n is of no bank more than m. -/
def LeN (n m : Int → Nat) : Prop := ∀ b, 0 ≤ b → b < 4 → n b ≤ m b
theorem stands_mono {l : List Pay} (hl : AllPay l) {h : Hs} {n m : Int → Nat} (hnm : LeN n m) {b : Int} (hb : 0 ≤ b ∧ b < 4) (e : n b = m b) (hs : Stands (after l n h) b) : Stands (after l m h) b := by
 constructor
 ·have h1 := hs.left
  rw [after_has hl n h hb, after_cr] at h1
  rw [after_has hl m h hb, after_cr, ← e]
  have i0 := ins_mono hl 0 b (hnm 0 (by omega) (by omega))
  have i1 := ins_mono hl 1 b (hnm 1 (by omega) (by omega))
  have i2 := ins_mono hl 2 b (hnm 2 (by omega) (by omega))
  have i3 := ins_mono hl 3 b (hnm 3 (by omega) (by omega))
  omega
 ·intro t t0 t1 hlim
  rw [after_lim] at hlim
  have h1 := hs.lim t t0 t1 (by rw [after_lim]; exact hlim)
  rw [after_sent hl n h t hb, after_sent hl n h b ⟨t0, t1⟩, after_lim] at h1
  rw [after_sent hl m h t hb, after_sent hl m h b ⟨t0, t1⟩, after_lim, ← e]
  have := tot_mono hl t t b (hnm t t0 t1)
  omega
theorem fine_mono {l : List Pay} (hl : AllPay l) {h : Hs} {n m : Int → Nat} (hnm : LeN n m) {b : Int} (hb : 0 ≤ b ∧ b < 4) (e : n b = m b) (hs : Fine (after l n h) b (n b)) : Fine (after l m h) b (m b) :=
 hs.elim (fun h => .inl (by omega)) fun h => .inr (stands_mono hl hnm hb e h)
/-- Each bank may do so many of its first payments, all at once. -/
structure Tog (h : Hs) (l : List Pay) (n : Int → Nat) : Prop where
 le : ∀ b, 0 ≤ b → b < 4 → n b ≤ (ofL l b).length
 fine : ∀ b, 0 ≤ b → b < 4 → Fine (after l n h) b (n b)
def maxN (n m : Int → Nat) : Int → Nat := fun b => max (n b) (m b)
theorem Tog.join {h : Hs} {l : List Pay} (hl : AllPay l) {n m : Int → Nat} (hn : Tog h l n) (hm : Tog h l m) : Tog h l (maxN n m) where
 le := fun b h0 h1 => by have := hn.le b h0 h1; have := hm.le b h0 h1; simp only [maxN]; omega
 fine := fun b h0 h1 => by
  by_cases e : m b ≤ n b
  ·exact fine_mono hl (fun c _ _ => by simp only [maxN]; omega) ⟨h0, h1⟩ (by simp only [maxN]; omega) (hn.fine b h0 h1)
  ·exact fine_mono hl (fun c _ _ => by simp only [maxN]; omega) ⟨h0, h1⟩ (by simp only [maxN]; omega) (hm.fine b h0 h1)
theorem tog_zero (h : Hs) (l : List Pay) : Tog h l (fun _ => 0) := ⟨fun _ _ _ => Nat.zero_le _, fun _ _ _ => .inl rfl⟩
/-- The most that may be done together. -/
structure IsMost (h : Hs) (l : List Pay) (n : Int → Nat) : Prop where
 tog : Tog h l n
 most : ∀ m, Tog h l m → LeN m n
theorem IsMost.unique {h : Hs} {l : List Pay} {n m : Int → Nat} (hn : IsMost h l n) (hm : IsMost h l m) {b : Int} (h0 : 0 ≤ b) (h1 : b < 4) : n b = m b :=
 Nat.le_antisymm (hm.most n hn.tog b h0 h1) (hn.most m hm.tog b h0 h1)
/-- One payment fewer of a bank that may not stand so: all that may be done together is within it still. -/
def lessN (n : Int → Nat) (b : Int) : Int → Nat := fun c => if c = b then n b - 1 else n c
theorem fewer {h : Hs} {l : List Pay} (hl : AllPay l) {n : Int → Nat} {b : Int} (hb : 0 ≤ b ∧ b < 4) (hn : ¬ Fine (after l n h) b (n b)) (hm : ∀ m, Tog h l m → LeN m n) : ∀ m, Tog h l m → LeN m (lessN n b) := by
 intro m ht c h0 h1
 have h2 := hm m ht
 by_cases e : c = b
 ·subst e
  have h3 := h2 c h0 h1
  have h4 : m c ≠ n c := fun e' => hn (fine_mono hl h2 hb e' (ht.fine c h0 h1))
  simp only [lessN, if_true]
  omega
 ·simp only [lessN, if_neg e]; exact h2 c h0 h1
/-! ### there is a most -/
def sumN (n : Int → Nat) : Nat := n 0 + n 1 + n 2 + n 3
theorem lessN_sum {n : Int → Nat} {b : Int} (hb : 0 ≤ b ∧ b < 4) (h : n b ≠ 0) : sumN (lessN n b) + 1 = sumN n := by
 rcases four hb with rfl | rfl | rfl | rfl <;> simp [sumN, lessN] <;> omega
theorem most_from {h : Hs} {l : List Pay} (hl : AllPay l) : ∀ (k : Nat) (n : Int → Nat), sumN n = k → (∀ b, 0 ≤ b → b < 4 → n b ≤ (ofL l b).length) → (∀ m, Tog h l m → LeN m n) → ∃ n, IsMost h l n := by
 intro k
 induction k using Nat.strongRecOn with
 | ind k ih =>
  intro n hk hle hm
  by_cases hall : ∀ b, 0 ≤ b → b < 4 → Fine (after l n h) b (n b)
  ·exact ⟨n, ⟨hle, hall⟩, hm⟩
  ·obtain ⟨b, hb⟩ := Classical.not_forall.1 hall
   obtain ⟨h0, hb⟩ := Classical.not_forall.1 hb
   obtain ⟨h1, hf⟩ := Classical.not_forall.1 hb
   have hne : n b ≠ 0 := fun e => hf (.inl e)
   have hs := lessN_sum (n := n) ⟨h0, h1⟩ hne
   refine ih (sumN (lessN n b)) (by omega) (lessN n b) rfl (fun c c0 c1 => ?_) (fewer hl ⟨h0, h1⟩ hf hm)
   have := hle c c0 c1
   have := hle b h0 h1
   simp only [lessN]
   split
   ·rename_i e; subst e; omega
   ·omega
theorem most_exists (h : Hs) {l : List Pay} (hl : AllPay l) : ∃ n, IsMost h l n :=
 most_from hl _ (fun b => (ofL l b).length) rfl (fun _ _ _ => Nat.le_refl _) fun _ hm => hm.le
open Classical in
noncomputable def mostOf (h : Hs) (l : List Pay) : Int → Nat := if hx : ∃ n, IsMost h l n then Classical.choose hx else fun _ => 0
theorem mostOf_is (h : Hs) {l : List Pay} (hl : AllPay l) : IsMost h l (mostOf h l) := by
 have hx := most_exists h hl
 simp only [mostOf, dif_pos hx]
 exact Classical.choose_spec hx
theorem firsts_congr (l : List Pay) {n m : Int → Nat} (h : ∀ b, 0 ≤ b → b < 4 → n b = m b) : firsts l n 4 = firsts l m 4 := by
 have h0 := h ((0 : Nat) : Int) (by decide) (by decide)
 have h1 := h ((1 : Nat) : Int) (by decide) (by decide)
 have h2 := h ((2 : Nat) : Int) (by decide) (by decide)
 have h3 := h ((3 : Nat) : Int) (by decide) (by decide)
 simp only [firsts]
 rw [h0, h1, h2, h3]
/-- All of xs are settled, one by one. -/
def settleAll (xs : List Nat) (S : St) : St := xs.foldl St.settle S
theorem settleAll_app (xs ys : List Nat) (S : St) : settleAll (xs ++ ys) S = settleAll ys (settleAll xs S) := List.foldl_append
end Go.Proofs.Ytggfdkkhlokmlab

namespace Go.Proofs.Ytggfdkkhlokmlab

/-- Numbers within 2^40, and k payments more. -/
structure Near (h : Hs) (k : Int) : Prop where
 has : ∀ i, 0 ≤ i → i < 4 → -(1099511627776 + 1000000 * k) ≤ h.has i ∧ h.has i ≤ 1099511627776 + 1000000 * k
 cr : ∀ i, 0 ≤ i → i < 4 → 0 ≤ h.cr i ∧ h.cr i ≤ 1000000
 sent : ∀ i j, 0 ≤ i → i < 4 → 0 ≤ j → j < 4 → 0 ≤ h.sent i j ∧ h.sent i j ≤ 1099511627776 + 1000000 * k
theorem Near.move {h : Hs} {k : Int} (hn : Near h k) (_h0 : 0 ≤ k) (f t a : Int) : Near (h.move f t a) (k + 1) := by
 cases hs : sends f t a with
 | false =>
  have e : h.move f t a = h := by simp [Hs.move, hs]
  rw [e]
  exact ⟨fun i h0 h1 => by have := hn.has i h0 h1; omega, hn.cr, fun i j h0 h1 h2 h3 => by have := hn.sent i j h0 h1 h2 h3; omega⟩
 | true =>
  have hs := sends_true.1 hs
  refine ⟨fun i h0 h1 => ?_, fun i h0 h1 => by rw [move_cr]; exact hn.cr i h0 h1, fun i j h0 h1 h2 h3 => ?_⟩
  ·have b1 := hn.has i h0 h1
   have b2 := hn.has t hs.t0 hs.t1
   have b3 := hn.has f hs.f0 hs.f1
   have := hs.a0; have := hs.a1
   rw [move_has hs]
   split
   ·omega
   ·split <;> omega
  ·have b1 := hn.sent i j h0 h1 h2 h3
   have b2 := hn.sent f t hs.f0 hs.f1 hs.t0 hs.t1
   have := hs.a0; have := hs.a1
   rw [move_sent hs]
   split <;> omega
theorem Near.mono {h : Hs} {k m : Int} (hn : Near h k) (hk : k ≤ m) : Near h m :=
 ⟨fun i h0 h1 => by have := hn.has i h0 h1; omega, hn.cr, fun i j h0 h1 h2 h3 => by have := hn.sent i j h0 h1 h2 h3; omega⟩
theorem Near.room {h : Hs} {k : Int} (hn : Near h k) (hk : k ≤ 1000000) : h.Room where
 has := fun i h0 h1 => by have := hn.has i h0 h1; omega
 cr := hn.cr
 sent := fun i j h0 h1 h2 h3 => by have := hn.sent i j h0 h1 h2 h3; omega
theorem Near.moves {l : List Pay} : ∀ (xs : List Nat) {h : Hs} {k : Int}, Near h k → 0 ≤ k → Near (moves l xs h) (k + xs.length)
 | [], _, _, hn, _ => by simpa [Go.Proofs.Ytggfdkkhlokmlab.moves] using hn
 | i :: xs, _, k, hn, h0 => by
  have := Near.moves (l := l) xs (hn.move h0 (payAt l i).frm (payAt l i).to (payAt l i).amt) (by omega)
  simp only [Go.Proofs.Ytggfdkkhlokmlab.moves, List.length_cons]
  exact this.mono (by omega)
theorem firsts_len (l : List Pay) (n : Int → Nat) : (firsts l n 4).length ≤ 4 * l.length := by
 have h : ∀ b m, ((ofL l b).take m).length ≤ l.length := fun b m => by
  have := ofL_len l b
  rw [List.length_take]; omega
 simp only [firsts, List.nil_append, List.length_append]
 have := h ((0 : Nat) : Int) (n ((0 : Nat) : Int))
 have := h ((1 : Nat) : Int) (n ((1 : Nat) : Int))
 have := h ((2 : Nat) : Int) (n ((2 : Nat) : Int))
 have := h ((3 : Nat) : Int) (n ((3 : Nat) : Int))
 omega

/-! ### a good house -/
theorem goodPay_sends {p : Pay} (h : goodPay p = true) : Sends p.frm p.to p.amt := by
 simp only [goodPay, Bool.and_eq_true, Bool.not_eq_true', beq_eq_false_iff_ne, decide_eq_true_eq] at h
 obtain ⟨⟨⟨⟨⟨⟨h1, h2⟩, h3⟩, h4⟩, h5⟩, h6⟩, h7⟩ := h
 have h1 := sm_true h1; have h2 := sm_true h2; have h4 := sm_true h4
 exact ⟨by omega, by omega, by omega, by omega, h3, by omega, by omega⟩
theorem goodPay_iff {p : Pay} : goodPay p = true ↔ Sends p.frm p.to p.amt ∧ 0 ≤ p.cls ∧ p.cls ≤ 2 ∧ 1 ≤ p.st ∧ p.st ≤ 3 ∧ 0 ≤ p.seq := by
 constructor
 ·intro h
  have hs := goodPay_sends h
  simp only [goodPay, Bool.and_eq_true, Bool.not_eq_true', beq_eq_false_iff_ne, decide_eq_true_eq] at h
  obtain ⟨⟨⟨⟨⟨⟨h1, h2⟩, h3⟩, h4⟩, h5⟩, h6⟩, h7⟩ := h
  have h5 := sm_true h5; have h6 := sm_true h6
  exact ⟨hs, by omega, by omega, by omega, by omega, h7⟩
 ·rintro ⟨hs, h1, h2, h3, h4, h5⟩
  have := hs.f0; have := hs.f1; have := hs.t0; have := hs.t1
  simp only [goodPay, Bool.and_eq_true, Bool.not_eq_true', beq_eq_false_iff_ne, decide_eq_true_eq]
  exact ⟨⟨⟨⟨⟨⟨sm_yes (by omega), sm_yes (by omega)⟩, hs.ne⟩, sm_yes ⟨hs.a0, hs.a1⟩⟩, sm_yes (by omega)⟩, sm_yes (by omega)⟩, h5⟩
theorem GoodP.allPay {h : Hs} {l : List Pay} (g : GoodP h l) : AllPay l := fun _ hi => goodPay_sends (g.pays _ (payAt_mem hi)).1
end Go.Proofs.Ytggfdkkhlokmlab

namespace Go.Proofs.Ytggfdkkhlokmlab
set_option linter.unusedVariables false

structure Deed where
 kind : Int
 a : Int
 b : Int
 c : Int
 n : Int
deriving DecidableEq, Inhabited

/-- Is the number of a size that is written down? -/
def notedN (n : Int) : Bool := decide (-1073741824 ≤ n ∧ n ≤ 1073741824)
def noted (x : Deed) : Bool := notedN x.kind && notedN x.a && notedN x.b && notedN x.c && notedN x.n

/-- A number's place among the naturals. -/
def zig (n : Int) : Nat := if 0 ≤ n then (2 * n).toNat else (-2 * n - 1).toNat
def zag (u : Nat) : Int := if u % 2 = 1 then -((u / 2 : Nat) : Int) - 1 else ((u / 2 : Nat) : Int)
theorem zag_zig (n : Int) : zag (zig n) = n := by
 unfold zag zig
 split <;> split <;> omega
theorem zig_zag (u : Nat) : zig (zag u) = u := by
 unfold zag zig
 split <;> split <;> omega
theorem zig_lt {n : Int} (h : notedN n = true) : zig n ≤ 2147483648 := by
 have := of_decide_eq_true h
 unfold zig
 split <;> omega

/-- Base 128, least digit first; all but the last digit are raised by 128. -/
def enc (u : Nat) : List UInt8 := if u < 128 then [UInt8.ofNat u] else UInt8.ofNat (128 + u % 128) :: enc (u / 128)
termination_by u
decreasing_by omega
theorem enc_small {u : Nat} (h : u < 128) : enc u = [UInt8.ofNat u] := by rw [enc, if_pos h]
theorem enc_big {u : Nat} (h : ¬ u < 128) : enc u = UInt8.ofNat (128 + u % 128) :: enc (u / 128) := by rw [enc, if_neg h]
theorem enc_ne (u : Nat) : enc u ≠ [] := by
 by_cases h : u < 128
 ·rw [enc_small h]; simp
 ·rw [enc_big h]; simp
theorem enc_len_pos (u : Nat) : 0 < (enc u).length := List.length_pos_iff.2 (enc_ne u)
theorem enc_len : ∀ (k u : Nat), u < 128 ^ (k + 1) → (enc u).length ≤ k + 1
 | 0, u, h => by rw [enc_small (by simpa using h)]; simp
 | k + 1, u, h => by
  by_cases h1 : u < 128
  ·rw [enc_small h1]; simp
  ·rw [enc_big h1]
   have h2 : u / 128 < 128 ^ (k + 1) := by
    rw [Nat.div_lt_iff_lt_mul (by omega)]
    rw [Nat.pow_succ] at h
    exact h
   have := enc_len k (u / 128) h2
   simp
   omega

/-- A number at the front of bytes: its value and how many bytes it has; at most 'fuel' bytes; no digit 0 at its end but as its only one. -/
def dec : Nat → Bool → List UInt8 → Option (Nat × Nat)
 | 0, _, _ => none
 | _ + 1, _, [] => none
 | f + 1, first, c :: s =>
  if c.toNat < 128 then (if first = false ∧ c.toNat = 0 then none else some (c.toNat, 1))
  else (dec f false s).map fun x => (c.toNat - 128 + 128 * x.1, x.2 + 1)
theorem ofNat_small {u : Nat} (h : u < 256) : (UInt8.ofNat u).toNat = u := by simp [UInt8.toNat_ofNat']; omega
/-- What is read at the front is just what would be written. -/
theorem dec_enc : ∀ (f : Nat) (first : Bool) (s : List UInt8) (u k : Nat), dec f first s = some (u, k) → (first = false → 0 < u) ∧ enc u = s.take k ∧ k ≤ f ∧ k ≤ s.length ∧ 0 < k
 | 0, _, _, _, _, h => by simp [dec] at h
 | f + 1, _, [], _, _, h => by simp [dec] at h
 | f + 1, first, c :: s, u, k, h => by
  have hc : c.toNat < 256 := c.toNat_lt
  unfold dec at h
  by_cases h1 : c.toNat < 128
  ·rw [if_pos h1] at h
   by_cases h2 : first = false ∧ c.toNat = 0
   ·rw [if_pos h2] at h; cases h
   ·rw [if_neg h2] at h
    cases h
    refine ⟨fun e => ?_, ?_, by omega, by simp, by omega⟩
    ·rcases Nat.eq_zero_or_pos c.toNat with h0 | h0
     ·exact absurd ⟨e, h0⟩ h2
     ·exact h0
    ·rw [enc_small h1]
     simp
  ·rw [if_neg h1] at h
   cases hd : dec f false s with
   | none => rw [hd] at h; cases h
   | some x =>
    obtain ⟨v, j⟩ := x
    rw [hd] at h
    simp only [Option.map_some, Option.some.injEq, Prod.mk.injEq] at h
    obtain ⟨rfl, rfl⟩ := h
    obtain ⟨i1, i2, i3, i4, i5⟩ := dec_enc f false s v j hd
    have hv := i1 rfl
    refine ⟨fun _ => by omega, ?_, by omega, by simp; omega, by omega⟩
    rw [enc_big (by omega)]
    have e1 : (c.toNat - 128 + 128 * v) % 128 = c.toNat - 128 := by omega
    have e2 : (c.toNat - 128 + 128 * v) / 128 = v := by omega
    rw [e1, e2, i2, show 128 + (c.toNat - 128) = c.toNat from by omega]
    simp
/-- What is written is read. -/
theorem dec_of_enc : ∀ (f : Nat) (first : Bool) (u : Nat) (s : List UInt8), u < 128 ^ (f + 1) → (first = false → 0 < u) → dec (f + 1) first (enc u ++ s) = some (u, (enc u).length) := by
 intro f
 induction f with
 | zero =>
  intro first u s h h0
  have h1 : u < 128 := by simpa using h
  rw [enc_small h1]
  have e : (UInt8.ofNat u).toNat = u := ofNat_small (by omega)
  simp only [List.cons_append, List.nil_append, dec, e, if_pos h1]
  rw [if_neg (fun hh => by have := h0 hh.1; omega)]
  rfl
 | succ f ih =>
  intro first u s h h0
  by_cases h1 : u < 128
  ·rw [enc_small h1]
   have e : (UInt8.ofNat u).toNat = u := ofNat_small (by omega)
   rw [List.cons_append, List.nil_append, dec, e, if_pos h1, if_neg (fun hh => by have := h0 hh.1; omega)]
   rfl
  ·rw [enc_big h1]
   have e : (UInt8.ofNat (128 + u % 128)).toNat = 128 + u % 128 := ofNat_small (by omega)
   have ih := ih false (u / 128) s (by
    rw [Nat.div_lt_iff_lt_mul (by omega)]
    rw [Nat.pow_succ] at h
    exact h) (fun _ => by omega)
   rw [List.cons_append, dec, e, if_neg (by omega), ih]
   simp
   omega

/-- The checksum: two sums. -/
def ckStep (s : Nat × Nat) (c : UInt8) : Nat × Nat := ((s.1 + c.toNat) % 251, (s.2 + (s.1 + c.toNat) % 251) % 251)
def ck (l : List UInt8) : Nat × Nat := l.foldl ckStep (1, 0)
def ckuStep (s : Nat × Nat) (c : UInt8) : Nat × Nat := (s.1 + c.toNat, s.2 + (s.1 + c.toNat))
def cku (l : List UInt8) : Nat × Nat := l.foldl ckuStep (1, 0)
theorem ck_go (l : List UInt8) : ∀ s t : Nat × Nat, s.1 = t.1 % 251 → s.2 = t.2 % 251 → (l.foldl ckStep s).1 = (l.foldl ckuStep t).1 % 251 ∧ (l.foldl ckStep s).2 = (l.foldl ckuStep t).2 % 251 := by
 induction l with
 | nil => intro s t h1 h2; exact ⟨h1, h2⟩
 | cons c l ih =>
  intro s t h1 h2
  refine ih _ _ ?_ ?_
  ·simp only [ckStep, ckuStep]; omega
  ·simp only [ckStep, ckuStep]; omega
theorem ck_cku (l : List UInt8) : (ck l).1 = (cku l).1 % 251 ∧ (ck l).2 = (cku l).2 % 251 := ck_go l _ _ rfl rfl
theorem ck_lt (l : List UInt8) : (ck l).1 < 251 ∧ (ck l).2 < 251 := by
 have := ck_cku l
 omega
theorem ck_snoc (l : List UInt8) (c : UInt8) : ck (l ++ [c]) = ckStep (ck l) c := by simp [ck]
theorem cku_snoc (l : List UInt8) (c : UInt8) : cku (l ++ [c]) = ckuStep (cku l) c := by simp [cku]

def body (x : Deed) : List UInt8 := enc (zig x.kind) ++ (enc (zig x.a) ++ (enc (zig x.b) ++ (enc (zig x.c) ++ enc (zig x.n))))
/-- The bytes of an act. -/
def frame (x : Deed) : List UInt8 := UInt8.ofNat (body x).length :: (body x ++ [UInt8.ofNat (ck (body x)).1, UInt8.ofNat (ck (body x)).2])
theorem noted_of {x : Deed} (h : noted x = true) : notedN x.kind = true ∧ notedN x.a = true ∧ notedN x.b = true ∧ notedN x.c = true ∧ notedN x.n = true := by
 simp only [noted, Bool.and_eq_true] at h
 exact ⟨h.1.1.1.1, h.1.1.1.2, h.1.1.2, h.1.2, h.2⟩
theorem zig_pow {n : Int} (h : notedN n = true) : zig n < 128 ^ (4 + 1) := by
 have := zig_lt h
 have e : (128 : Nat) ^ (4 + 1) = 34359738368 := by decide
 omega
theorem enc_zig_len {n : Int} (h : notedN n = true) : (enc (zig n)).length ≤ 5 := enc_len 4 _ (zig_pow h)
theorem body_len {x : Deed} (h : noted x = true) : 5 ≤ (body x).length ∧ (body x).length ≤ 25 := by
 obtain ⟨h1, h2, h3, h4, h5⟩ := noted_of h
 have a1 := enc_zig_len h1; have a2 := enc_zig_len h2; have a3 := enc_zig_len h3; have a4 := enc_zig_len h4; have a5 := enc_zig_len h5
 have b1 := enc_len_pos (zig x.kind); have b2 := enc_len_pos (zig x.a); have b3 := enc_len_pos (zig x.b); have b4 := enc_len_pos (zig x.c); have b5 := enc_len_pos (zig x.n)
 simp only [body, List.length_append]
 omega
theorem frame_len (x : Deed) : (frame x).length = (body x).length + 3 := by simp [frame]

/-- Five numbers, one behind the other. -/
def dec1 (s : List UInt8) : Option (Int × List UInt8) := (dec 5 true s).map fun x => (zag x.1, s.drop x.2)
def dec5 (s : List UInt8) : Option (Deed × List UInt8) :=
 (dec1 s).bind fun x1 => (dec1 x1.2).bind fun x2 => (dec1 x2.2).bind fun x3 => (dec1 x3.2).bind fun x4 => (dec1 x4.2).map fun x5 => (⟨x1.1, x2.1, x3.1, x4.1, x5.1⟩, x5.2)
theorem dec1_enc {s t : List UInt8} {n : Int} (h : dec1 s = some (n, t)) : s = enc (zig n) ++ t := by
 unfold dec1 at h
 cases hd : dec 5 true s with
 | none => rw [hd] at h; cases h
 | some x =>
  obtain ⟨u, k⟩ := x
  rw [hd] at h
  simp only [Option.map_some, Option.some.injEq, Prod.mk.injEq] at h
  obtain ⟨rfl, rfl⟩ := h
  obtain ⟨_, h2, _, _, _⟩ := dec_enc 5 true s u k hd
  rw [zig_zag, h2, List.take_append_drop]
theorem dec1_of_enc {n : Int} (h : notedN n = true) (t : List UInt8) : dec1 (enc (zig n) ++ t) = some (n, t) := by
 unfold dec1
 rw [dec_of_enc 4 true (zig n) t (zig_pow h) (by simp)]
 simp [zag_zig]
theorem dec5_enc {s t : List UInt8} {x : Deed} (h : dec5 s = some (x, t)) : s = body x ++ t := by
 unfold dec5 at h
 simp only [Option.bind_eq_some_iff, Option.map_eq_some_iff, Prod.mk.injEq] at h
 obtain ⟨⟨n1, s1⟩, h1, ⟨n2, s2⟩, h2, ⟨n3, s3⟩, h3, ⟨n4, s4⟩, h4, ⟨n5, s5⟩, h5, rfl, rfl⟩ := h
 simp only at h2 h3 h4 h5 ⊢
 rw [dec1_enc h1, dec1_enc h2, dec1_enc h3, dec1_enc h4, dec1_enc h5]
 simp [body]
theorem dec5_of {x : Deed} (h : noted x = true) (t : List UInt8) : dec5 (body x ++ t) = some (x, t) := by
 obtain ⟨h1, h2, h3, h4, h5⟩ := noted_of h
 simp only [dec5, body, List.append_assoc]
 rw [dec1_of_enc h1]; simp only [Option.bind_some]
 rw [dec1_of_enc h2]; simp only [Option.bind_some]
 rw [dec1_of_enc h3]; simp only [Option.bind_some]
 rw [dec1_of_enc h4]; simp only [Option.bind_some]
 rw [dec1_of_enc h5]
 rfl
/-- One frame at the front. -/
def oneL (s : List UInt8) : Option (Deed × Nat) :=
 match s with
 | [] => none
 | c :: t =>
  if t.length < c.toNat + 2 then none
  else if (t.drop c.toNat).take 2 = [UInt8.ofNat (ck (t.take c.toNat)).1, UInt8.ofNat (ck (t.take c.toNat)).2] then
   (match dec5 (t.take c.toNat) with
    | some (x, []) => if noted x then some (x, c.toNat + 3) else none
    | _ => none)
  else none
/-- What it means that the frame of an act stands at the front. -/
def HasFrame (s : List UInt8) (x : Deed) : Prop := noted x = true ∧ frame x = s.take (frame x).length
theorem oneL_sound {s : List UInt8} {x : Deed} {k : Nat} (h : oneL s = some (x, k)) : HasFrame s x ∧ k = (frame x).length ∧ k ≤ s.length := by
 unfold oneL at h
 match s, h with
 | c :: t, h =>
  simp only at h
  split at h
  ·cases h
  ·rename_i hlen
   split at h
   ·rename_i hck
    split at h
    ·rename_i y hd
     split at h
     ·rename_i hn
      simp only [Option.some.injEq, Prod.mk.injEq] at h
      obtain ⟨rfl, rfl⟩ := h
      have hb := dec5_enc hd
      rw [List.append_nil] at hb
      have hbl : (body y).length = c.toNat := by rw [← hb, List.length_take]; omega
      refine ⟨⟨hn, ?_⟩, by rw [frame_len, hbl], by simp; omega⟩
      rw [frame_len, hbl]
      unfold frame
      rw [hbl, ← hb]
      rw [← hck]
      rw [show c.toNat + 3 = (c.toNat + 2) + 1 from by omega, List.take_succ_cons, List.take_add, UInt8.ofNat_toNat]
     ·cases h
    ·cases h
   ·cases h
theorem oneL_of {s : List UInt8} {x : Deed} (h : HasFrame s x) : oneL s = some (x, (frame x).length) := by
 obtain ⟨hn, hf⟩ := h
 have hbl := body_len hn
 have hs : s = frame x ++ s.drop (frame x).length := by
  conv => lhs; rw [← List.take_append_drop (frame x).length s, ← hf]
 generalize s.drop (frame x).length = r at hs
 subst hs
 clear hf
 have hc : (UInt8.ofNat (body x).length).toNat = (body x).length := ofNat_small (by omega)
 have e1 : frame x ++ r = UInt8.ofNat (body x).length :: (body x ++ ([UInt8.ofNat (ck (body x)).1, UInt8.ofNat (ck (body x)).2] ++ r)) := by simp [frame]
 rw [e1]
 unfold oneL
 simp only [hc]
 rw [if_neg (by simp)]
 rw [List.take_append_of_le_length (Nat.le_refl _), List.take_length, List.drop_append_of_le_length (Nat.le_refl _), List.drop_length, List.nil_append]
 have hd := dec5_of hn []
 rw [List.append_nil] at hd
 rw [if_pos (by simp), hd]
 simp [hn, frame_len]
theorem HasFrame.unique {s : List UInt8} {x y : Deed} (hx : HasFrame s x) (hy : HasFrame s y) : x = y := by
 have h1 := oneL_of hx
 rw [oneL_of hy] at h1
 simp only [Option.some.injEq, Prod.mk.injEq] at h1
 exact h1.1.symm
theorem oneL_pos {s : List UInt8} {x : Deed} {k : Nat} (h : oneL s = some (x, k)) : 0 < k ∧ k ≤ s.length := by
 obtain ⟨h1, h2, h3⟩ := oneL_sound h
 rw [h2, frame_len]
 rw [h2, frame_len] at h3
 omega

/-- All frames at the front, one behind the other; how many bytes they are. -/
def rd (s : List UInt8) : List Deed × Nat :=
 match h : oneL s with
 | none => ([], 0)
 | some (x, k) => (x :: (rd (s.drop k)).1, k + (rd (s.drop k)).2)
termination_by s.length
decreasing_by all_goals (have := oneL_pos h; simp; omega)
theorem rd_none {s : List UInt8} (h : oneL s = none) : rd s = ([], 0) := by
 unfold rd
 split
 ·rfl
 ·rename_i h2; rw [h] at h2; cases h2
theorem rd_some {s : List UInt8} {x : Deed} {k : Nat} (h : oneL s = some (x, k)) : rd s = (x :: (rd (s.drop k)).1, k + (rd (s.drop k)).2) := by
 conv => lhs; unfold rd
 split
 ·rename_i h2; rw [h] at h2; cases h2
 ·rename_i h2; rw [h] at h2; cases h2; rfl
theorem rd_le (s : List UInt8) : (rd s).2 ≤ s.length := by
 cases h : oneL s with
 | none => rw [rd_none h]; simp
 | some x =>
  obtain ⟨x, k⟩ := x
  have h1 := oneL_pos h
  rw [rd_some h]
  have := rd_le (s.drop k)
  simp at this ⊢
  omega
termination_by s.length
decreasing_by (have := oneL_pos h; simp; omega)
/-- The text of acts. -/
def text (l : List Deed) : List UInt8 := l.flatMap frame
end Go.Proofs.Ytggfdkkhlokmlab

namespace Go.Proofs.Ytggfdkkhlokmlab

noncomputable def sweepG (h : Hs) (l : List Pay) : St := if goodB h l then sweepS ⟨h, l, []⟩ else ⟨h, l, []⟩
noncomputable def untieS (h : Hs) (l : List Pay) : St := if goodB h l then settleAll (firsts l (mostOf h l) 4) ⟨h, l, []⟩ else ⟨h, l, []⟩
/-- A house behind an act, and the answer. -/
structure Nx where
 h : Hs
 l : List Pay
 code : Int
 n : Int
 done : List Nat
def Nx.err (h : Hs) (l : List Pay) (c : Int) : Nx := ⟨h, l, c, 0, []⟩
noncomputable def Nx.swept (h : Hs) (l : List Pay) (n : Int) (pre : List Nat) : Nx := ⟨(sweepG h l).h, (sweepG h l).l, 0, n, pre ++ (sweepG h l).d⟩
/-- Does payment n wait? -/
def waitsAt (l : List Pay) (n : Int) : Bool := decide (0 ≤ n ∧ n < l.length ∧ (payAt l n.toNat).st = 1)
def Hs.setNext (h : Hs) (v : Int) : Hs := { h with next := v }
def Hs.setCr (h : Hs) (i v : Int) : Hs := { h with cr := fun j => if j = i then v else h.cr j }
def Pay.gone (p : Pay) : Pay := { p with st := 3 }
def Pay.last (p : Pay) (c s : Int) : Pay := { p with cls := c, seq := s }
def Pay.shut (p : Pay) : Pay := if p.st = 1 then p.gone else p
def payOf (h : Hs) (a : Deed) : Pay := ⟨a.a, a.b, a.n, a.c, 1, h.next⟩
/-- P5.1 to P5.4. -/
noncomputable def nextL (h : Hs) (l : List Pay) (a : Deed) : Nx :=
 if goodB h l = false then .err h l 1
 else if a.kind = 1 then
  if goodPay (payOf h a) = false then .err h l 3
  else if 24 ≤ l.length ∨ 1048576 ≤ h.next then .err h l 5
  else .swept (h.setNext (h.next + 1)) (l ++ [payOf h a]) l.length []
 else if a.kind = 2 then
  if waitsAt l a.a = false then .err h l 4
  else .swept h (l.set a.a.toNat (payAt l a.a.toNat).gone) 0 []
 else if a.kind = 3 then
  if waitsAt l a.a = false then .err h l 4
  else if sm 0 a.c 2 = false then .err h l 3
  else if 1048576 ≤ h.next then .err h l 5
  else .swept (h.setNext (h.next + 1)) (l.set a.a.toNat ((payAt l a.a.toNat).last a.c h.next)) 0 []
 else if a.kind = 4 then
  if sm 0 a.a 3 = false ∨ sm 0 a.n 1000000 = false then .err h l 3
  else .swept (h.setCr a.a a.n) l 0 []
 else if a.kind = 5 then
  if sm 0 a.a 3 = false ∨ sm 0 a.b 3 = false ∨ a.a = a.b ∨ sm (-1) a.n 1000000 = false then .err h l 3
  else .swept (h.setLim a.a a.b a.n) l 0 []
 else if a.kind = 6 then
  if sm 0 a.a 3 = false ∨ sm 1 a.n 1000000 = false then .err h l 3
  else if 549755813888 ≤ h.has a.a then .err h l 5
  else .swept (h.setHas a.a (h.has a.a + a.n)) l 0 []
 else if a.kind = 7 then
  if sm 0 a.a 3 = false ∨ sm 1 a.n 1000000 = false then .err h l 3
  else if h.has a.a + h.cr a.a < a.n then .err h l 6
  else .swept (h.setHas a.a (h.has a.a - a.n)) l 0 []
 else if a.kind = 8 then .swept (untieS h l).h (untieS h l).l (untieS h l).d.length (untieS h l).d
 else if a.kind = 9 then ⟨h, l.map Pay.shut, 0, waiting l, []⟩
 else .err h l 2

/-! ### sums over payments that were done -/
def dsum (f : Pay → Bool) (l : List Pay) : Int := (l.map fun p => if p.st = 2 ∧ f p = true then p.amt else 0).sum
theorem sum_set (g : Pay → Int) : ∀ (l : List Pay) (i : Nat) (q : Pay), i < l.length → ((l.set i q).map g).sum = (l.map g).sum - g (payAt l i) + g q
 | [], i, q, h => by simp at h
 | p :: l, 0, q, h => by simp [payAt]; omega
 | p :: l, i + 1, q, h => by
  have ih := sum_set g l i q (by simpa using h)
  have e : payAt (p :: l) (i + 1) = payAt l i := by simp [payAt]
  simp only [List.set_cons_succ, List.map_cons, List.sum_cons, ih, e]
  omega
theorem dsum_set (f : Pay → Bool) {l : List Pay} {i : Nat} (q : Pay) (h : i < l.length) : dsum f (l.set i q) = dsum f l - (if (payAt l i).st = 2 ∧ f (payAt l i) = true then (payAt l i).amt else 0) + (if q.st = 2 ∧ f q = true then q.amt else 0) :=
 sum_set (fun p => if p.st = 2 ∧ f p = true then p.amt else 0) l i q h
theorem dsum_app (f : Pay → Bool) (l k : List Pay) : dsum f (l ++ k) = dsum f l + dsum f k := by simp [dsum]
theorem dsum_bound (f : Pay → Bool) : ∀ l : List Pay, (∀ p ∈ l, goodPay p = true) → 0 ≤ dsum f l ∧ dsum f l ≤ 1000000 * l.length
 | [], _ => by simp [dsum]
 | p :: l, h => by
  have ih := dsum_bound f l fun q hq => h q (by simp [hq])
  have hp := goodPay_sends (h p (by simp))
  have h0 := hp.a0; have h1 := hp.a1
  simp only [dsum, List.map_cons, List.sum_cons, List.length_cons] at ih ⊢
  split <;> omega
theorem dsum_zero (f : Pay → Bool) (l : List Pay) (h : ∀ p ∈ l, f p = false) : dsum f l = 0 :=
 sum_zero _ l fun p hp => by rw [if_neg (by rw [h p hp]; simp)]
def toB (t : Int) (p : Pay) : Bool := p.to == t
def ftB (b t : Int) (p : Pay) : Bool := p.frm == b && p.to == t

/-! ### what holds of a house at work -/
structure Inv (h : Hs) (l : List Pay) : Prop where
 len : l.length ≤ 24
 next : 0 ≤ h.next ∧ h.next ≤ 1048576
 hi : ∀ i, 0 ≤ i → i < 4 → h.has i ≤ 549756813888 + dsum (toB i) l
 cr : ∀ i, 0 ≤ i → i < 4 → 0 ≤ h.cr i ∧ h.cr i ≤ 1000000
 lim : ∀ i k, 0 ≤ i → i < 4 → 0 ≤ k → k < 4 → -1 ≤ h.lim i k ∧ h.lim i k ≤ 1000000
 sent : ∀ i k, 0 ≤ i → i < 4 → 0 ≤ k → k < 4 → h.sent i k = dsum (ftB i k) l
 pays : ∀ p ∈ l, goodPay p = true ∧ p.seq < h.next
 nodup : (l.map (·.seq)).Nodup
def Low (h : Hs) : Prop := ∀ i, 0 ≤ i → i < 4 → -1000000 ≤ h.has i
theorem Inv.good {h : Hs} {l : List Pay} (v : Inv h l) (lo : Low h) : GoodP h l where
 len := v.len
 next := sm_yes v.next
 banks := fun i h0 h1 => by
  have hg : ∀ p ∈ l, goodPay p = true := fun p hp => (v.pays p hp).1
  have hl := v.len
  refine ⟨sm_yes ?_, sm_yes (v.cr i h0 h1), fun k k0 k1 => ⟨sm_yes ?_, sm_yes (v.lim i k h0 h1 k0 k1), fun e => ?_⟩⟩
  ·have := v.hi i h0 h1; have := lo i h0 h1; have := dsum_bound (toB i) l hg; omega
  ·rw [v.sent i k h0 h1 k0 k1]; have := dsum_bound (ftB i k) l hg; omega
  ·subst e
   rw [v.sent i i h0 h1 h0 h1]
   refine dsum_zero _ _ fun p hp => ?_
   have := (goodPay_sends (hg p hp)).ne
   simp only [ftB, Bool.and_eq_false_iff, beq_eq_false_iff_ne]
   by_cases e : p.frm = i
   ·exact .inr fun e' => this (by rw [e, e'])
   ·exact .inl e
 pays := v.pays
 nodup := v.nodup
theorem Inv.goodB {h : Hs} {l : List Pay} (v : Inv h l) (lo : Low h) : goodB h l = true := goodB_yes (v.good lo)
theorem done_good {p : Pay} (h : goodPay p = true) : goodPay p.done = true := by
 obtain ⟨h1, h2, h3, h4, h5, h6⟩ := goodPay_iff.1 h
 exact goodPay_iff.2 ⟨h1, h2, h3, by simp [Pay.done], by simp [Pay.done], h6⟩
theorem set_pays {l : List Pay} {i : Nat} {q : Pay} {P : Pay → Prop} (h : ∀ p ∈ l, P p) (hq : P q) : ∀ p ∈ l.set i q, P p := fun p hp => by
 rcases List.mem_or_eq_of_mem_set hp with h' | rfl
 ·exact h p h'
 ·exact hq
theorem settle_next (S : St) (i : Nat) : (S.settle i).h.next = S.h.next := move_next _ _ _ _
theorem settle_cr (S : St) (i : Nat) : (S.settle i).h.cr = S.h.cr := move_cr _ _ _ _
theorem settle_lim (S : St) (i : Nat) : (S.settle i).h.lim = S.h.lim := move_lim _ _ _ _
theorem settle_has {S : St} {i : Nat} (hs : Sends (payAt S.l i).frm (payAt S.l i).to (payAt S.l i).amt) (t : Int) : (S.settle i).h.has t = if t = (payAt S.l i).to then S.h.has (payAt S.l i).to + (payAt S.l i).amt else if t = (payAt S.l i).frm then S.h.has (payAt S.l i).frm - (payAt S.l i).amt else S.h.has t := move_has hs t
theorem settle_sent {S : St} {i : Nat} (hs : Sends (payAt S.l i).frm (payAt S.l i).to (payAt S.l i).amt) (b t : Int) : (S.settle i).h.sent b t = if b = (payAt S.l i).frm ∧ t = (payAt S.l i).to then S.h.sent (payAt S.l i).frm (payAt S.l i).to + (payAt S.l i).amt else S.h.sent b t := move_sent hs b t
theorem Inv.settle {S : St} {i : Nat} (v : Inv S.h S.l) (hi : i < S.l.length) (h1 : (payAt S.l i).st = 1) : Inv (S.settle i).h (S.settle i).l := by
 have hp := v.pays _ (payAt_mem hi)
 have hs := goodPay_sends hp.1
 have a0 := hs.a0
 have hdone : ∀ f : Pay → Bool, f (payAt S.l i).done = f (payAt S.l i) → dsum f (S.settle i).l = dsum f S.l + if f (payAt S.l i) = true then (payAt S.l i).amt else 0 := fun f hf => by
  show dsum f (settled S.l i) = _
  rw [settled, dsum_set f _ hi, h1, hf]
  simp [Pay.done]
 refine ⟨by show (settled S.l i).length ≤ 24; rw [settled_len]; exact v.len, ?_, fun t t0 t1 => ?_, ?_, ?_, fun b t b0 b1 t0 t1 => ?_, ?_, by rw [settle_seqs]; exact v.nodup⟩
 ·rw [settle_next]; exact v.next
 ·rw [hdone (toB t) rfl]
  rw [settle_has hs]
  have b1 := v.hi t t0 t1
  have b2 := v.hi _ hs.t0 hs.t1
  by_cases e : t = (payAt S.l i).to
  ·rw [if_pos e, if_pos (by simp [toB, e])]
   rw [e]; omega
  ·rw [if_neg e, if_neg (c := toB t (payAt S.l i) = true) (by simp only [toB, beq_iff_eq]; exact fun e' => e e'.symm)]
   split
   ·rename_i e'; rw [← e']; omega
   ·omega
 ·intro t t0 t1
  rw [settle_cr]; exact v.cr t t0 t1
 ·intro b t b0 b1 t0 t1
  rw [settle_lim]; exact v.lim b t b0 b1 t0 t1
 ·rw [hdone (ftB b t) rfl]
  rw [settle_sent hs]
  by_cases e : b = (payAt S.l i).frm ∧ t = (payAt S.l i).to
  ·obtain ⟨e1, e2⟩ := e
   rw [if_pos ⟨e1, e2⟩, if_pos (by simp [ftB, e1, e2]), e1, e2, v.sent _ _ hs.f0 hs.f1 hs.t0 hs.t1]
  ·rw [if_neg e, if_neg (by simp only [ftB, Bool.and_eq_true, beq_iff_eq]; exact fun e' => e ⟨e'.1.symm, e'.2.symm⟩), v.sent b t b0 b1 t0 t1]
   omega
 ·rw [settle_next]
  show ∀ p ∈ settled S.l i, goodPay p = true ∧ p.seq < S.h.next
  exact set_pays v.pays ⟨done_good hp.1, hp.2⟩
theorem Low.settle {S : St} {i : Nat} (v : Inv S.h S.l) (lo : Low S.h) (_hi : i < S.l.length) (hm : S.may i = true) : Low (S.settle i).h := by
 obtain ⟨hs, hl, _⟩ := mayB_true hm
 have a0 := hs.a0
 intro t t0 t1
 rw [settle_has hs]
 have b1 := lo t t0 t1
 have b2 := lo _ hs.t0 hs.t1
 have b3 := v.cr _ hs.f0 hs.f1
 split
 ·omega
 ·split <;> omega
theorem Inv.sweep {h : Hs} {l : List Pay} (v : Inv h l) (lo : Low h) : Inv (sweepG h l).h (sweepG h l).l ∧ Low (sweepG h l).h := by
 rw [sweepG, if_pos (v.goodB lo)]
 refine visits_ind (fun S => Inv S.h S.l ∧ Low S.h) (fun S hS => hS.1.nodup) (fun b S i xs _ hS hq hm => ?_) ⟨h, l, []⟩ ⟨v, lo⟩ _
 have hi := (ofL_mem (l := S.l) (bank := b) (i := i)).1 (by rw [hq]; simp)
 exact ⟨hS.1.settle hi.1 hi.2.1, Low.settle hS.1 hS.2 hi.1 hm⟩
theorem sweep_restsG {h : Hs} {l : List Pay} (g : goodB h l = true) : Rests (sweepG h l) := by
 rw [sweepG, if_pos g]
 exact sweep_rests _ (goodB_true g).nodup

/-! ### untying -/
theorem moves_congr {l k : List Pay} (h : ∀ i, (payAt l i).frm = (payAt k i).frm ∧ (payAt l i).to = (payAt k i).to ∧ (payAt l i).amt = (payAt k i).amt) : ∀ (xs : List Nat) (x : Hs), moves l xs x = moves k xs x
 | [], _ => rfl
 | i :: xs, x => by
  obtain ⟨h1, h2, h3⟩ := h i
  simp only [moves, h1, h2, h3]
  exact moves_congr h xs _
theorem settled_keys (l : List Pay) (j : Nat) : ∀ i, (payAt (settled l j) i).frm = (payAt l i).frm ∧ (payAt (settled l j) i).to = (payAt l i).to ∧ (payAt (settled l j) i).amt = (payAt l i).amt := fun i =>
 let ⟨h1, h2, h3, _⟩ := settled_key l j i; ⟨h1, h2, h3⟩
theorem settleAll_h : ∀ (xs : List Nat) (S : St), (settleAll xs S).h = moves S.l xs S.h ∧ (settleAll xs S).d = S.d ++ xs
 | [], S => ⟨rfl, by simp [settleAll]⟩
 | i :: xs, S => by
  obtain ⟨h1, h2⟩ := settleAll_h xs (S.settle i)
  refine ⟨?_, ?_⟩
  ·show (settleAll xs (S.settle i)).h = _
   rw [h1]
   exact moves_congr (settled_keys S.l i) xs _
  ·show (settleAll xs (S.settle i)).d = _
   rw [h2]
   simp [St.settle]
theorem settleAll_ind (P : St → Prop) : ∀ (xs : List Nat) (S : St), xs.Nodup → (∀ i ∈ xs, i < S.l.length ∧ (payAt S.l i).st = 1) → (∀ S i, P S → i < S.l.length → (payAt S.l i).st = 1 → P (S.settle i)) → P S → P (settleAll xs S)
 | [], S, _, _, _, h => h
 | i :: xs, S, hn, hw, hs, h => by
  have hn' := List.nodup_cons.1 hn
  refine settleAll_ind P xs (S.settle i) hn'.2 (fun j hj => ?_) hs (hs S i h (hw i (by simp)).1 (hw i (by simp)).2)
  have hj' := hw j (by simp [hj])
  have hne : i ≠ j := fun e => hn'.1 (e ▸ hj)
  show j < (settled S.l i).length ∧ (payAt (settled S.l i) j).st = 1
  rw [settled_len, settled_ne hne]
  exact hj'
theorem firsts_mem {l : List Pay} {n : Int → Nat} {i : Nat} : ∀ k, i ∈ firsts l n k → ∃ b : Nat, b < k ∧ i ∈ ofL l (b : Int)
 | 0, h => by simp [firsts] at h
 | k + 1, h => by
  rcases List.mem_append.1 h with h | h
  ·obtain ⟨b, hb, hi⟩ := firsts_mem k h
   exact ⟨b, by omega, hi⟩
  ·exact ⟨k, by omega, List.mem_of_mem_take h⟩
theorem firsts_wait {l : List Pay} {n : Int → Nat} {k i : Nat} (h : i ∈ firsts l n k) : i < l.length ∧ (payAt l i).st = 1 := by
 obtain ⟨b, _, hi⟩ := firsts_mem k h
 have := ofL_mem.1 hi
 exact ⟨this.1, this.2.1⟩
theorem firsts_nodup (l : List Pay) (n : Int → Nat) : ∀ k, (firsts l n k).Nodup
 | 0 => by simp [firsts]
 | k + 1 => by
  simp only [firsts]
  rw [List.nodup_append]
  refine ⟨firsts_nodup l n k, ((ofL_is l k).nodup.sublist (List.take_sublist _ _)), ?_⟩
  intro i hi j hj e
  subst e
  obtain ⟨b, hb, hi⟩ := firsts_mem k hi
  have h1 := (ofL_mem.1 hi).2.2
  have h2 := (ofL_mem.1 (List.mem_of_mem_take hj)).2.2
  omega
theorem Inv.untie {h : Hs} {l : List Pay} (v : Inv h l) (lo : Low h) : Inv (untieS h l).h (untieS h l).l ∧ Low (untieS h l).h := by
 have g := v.good lo
 rw [untieS, if_pos (v.goodB lo)]
 refine ⟨settleAll_ind (fun S => Inv S.h S.l) _ _ (firsts_nodup l _ 4) (fun i hi => firsts_wait hi) (fun S i hS hi h1 => hS.settle hi h1) v, ?_⟩
 have hm := mostOf_is h g.allPay
 rw [(settleAll_h _ _).1]
 show Low (after l (mostOf h l) h)
 intro b b0 b1
 rcases hm.tog.fine b b0 b1 with h0 | h0
 ·rw [after_has g.allPay _ _ ⟨b0, b1⟩, h0]
  have e : outs l b ((ofL l b).take 0) = 0 := by simp [outs]
  have i0 := ins_pos b (snd_take g.allPay 0 (mostOf h l 0))
  have i1 := ins_pos b (snd_take g.allPay 1 (mostOf h l 1))
  have i2 := ins_pos b (snd_take g.allPay 2 (mostOf h l 2))
  have i3 := ins_pos b (snd_take g.allPay 3 (mostOf h l 3))
  have := lo b b0 b1
  omega
 ·have := h0.left
  rw [after_cr] at this
  have := v.cr b b0 b1
  omega

/-! ### an act -/
theorem dsum_same (f : Pay → Bool) {l : List Pay} {i : Nat} {q : Pay} (h : i < l.length) (h1 : (payAt l i).st ≠ 2) (h2 : q.st ≠ 2) : dsum f (l.set i q) = dsum f l := by
 rw [dsum_set f _ h, if_neg (fun e => h1 e.1), if_neg (fun e => h2 e.1)]; omega
theorem dsum_shut (f : Pay → Bool) (l : List Pay) : dsum f (l.map Pay.shut) = dsum f l := by
 simp only [dsum, List.map_map]
 congr 1
 refine List.map_congr_left fun p _ => ?_
 simp only [Function.comp, Pay.shut]
 split
 ·rename_i e; simp [Pay.gone, e]
 ·rfl
theorem waitsAt_true {l : List Pay} {n : Int} (h : waitsAt l n = true) : n.toNat < l.length ∧ (payAt l n.toNat).st = 1 ∧ 0 ≤ n := by
 have := of_decide_eq_true h
 exact ⟨by omega, this.2.2, this.1⟩
theorem shut_good {p : Pay} (h : goodPay p = true) : goodPay p.shut = true := by
 obtain ⟨h1, h2, h3, h4, h5, h6⟩ := goodPay_iff.1 h
 simp only [Pay.shut]
 split
 ·exact goodPay_iff.2 ⟨h1, h2, h3, by simp [Pay.gone], by simp [Pay.gone], h6⟩
 ·exact h
theorem set_seqs {l : List Pay} {i : Nat} {q : Pay} (h : q.seq = (payAt l i).seq) : (l.set i q).map (·.seq) = l.map (·.seq) := by
 by_cases hi : i < l.length
 ·rw [List.map_set, h]
  apply List.ext_getElem?
  intro k
  by_cases hk : i = k
  ·subst hk
   rw [List.getElem?_set_self (by simpa using hi), List.getElem?_map, payAt_get hi]; rfl
  ·rw [List.getElem?_set_ne hk]
 ·rw [List.set_eq_of_length_le (by omega)]
/-- What may become of a house but for its sweeping. -/
theorem Inv.gone {h : Hs} {l : List Pay} (v : Inv h l) {n : Int} (hw : waitsAt l n = true) : Inv h (l.set n.toNat (payAt l n.toNat).gone) := by
 obtain ⟨hi, h1, _⟩ := waitsAt_true hw
 have hp := v.pays _ (payAt_mem hi)
 obtain ⟨g1, g2, g3, g4, g5, g6⟩ := goodPay_iff.1 hp.1
 have hd : ∀ f, dsum f (l.set n.toNat (payAt l n.toNat).gone) = dsum f l := fun f => dsum_same f hi (by omega) (by simp [Pay.gone])
 refine ⟨by rw [List.length_set]; exact v.len, v.next, fun i h0 h1 => by rw [hd]; exact v.hi i h0 h1, v.cr, v.lim, fun i k h0 h1 k0 k1 => by rw [hd]; exact v.sent i k h0 h1 k0 k1, set_pays v.pays ⟨goodPay_iff.2 ⟨g1, g2, g3, by simp [Pay.gone], by simp [Pay.gone], g6⟩, hp.2⟩, ?_⟩
 rw [set_seqs (l := l) (i := n.toNat) (q := (payAt l n.toNat).gone) rfl]; exact v.nodup
theorem Inv.last {h : Hs} {l : List Pay} (v : Inv h l) {n c : Int} (hw : waitsAt l n = true) (hc : sm 0 c 2 = true) (hn : h.next < 1048576) : Inv (h.setNext (h.next + 1)) (l.set n.toNat ((payAt l n.toNat).last c h.next)) := by
 obtain ⟨hi, h1, _⟩ := waitsAt_true hw
 have hc := sm_true hc
 have hx := v.next
 have hp := v.pays _ (payAt_mem hi)
 obtain ⟨g1, g2, g3, g4, g5, g6⟩ := goodPay_iff.1 hp.1
 have hd : ∀ f, dsum f (l.set n.toNat ((payAt l n.toNat).last c h.next)) = dsum f l := fun f => dsum_same f hi (by omega) (by simp [Pay.last]; omega)
 refine ⟨by rw [List.length_set]; exact v.len, by simp only [Hs.setNext]; omega, fun i h0 h1 => by rw [hd]; exact v.hi i h0 h1, v.cr, v.lim, fun i k h0 h1 k0 k1 => by rw [hd]; exact v.sent i k h0 h1 k0 k1, ?_, ?_⟩
 ·refine set_pays (fun p hp => ⟨(v.pays p hp).1, ?_⟩) ⟨goodPay_iff.2 ⟨g1, by simp [Pay.last]; omega, by simp [Pay.last]; omega, by simp [Pay.last]; omega, by simp [Pay.last]; omega, by simp [Pay.last]; omega⟩, ?_⟩
  ·have := (v.pays p hp).2; simp only [Hs.setNext]; omega
  ·simp only [Hs.setNext, Pay.last]; omega
 ·rw [List.map_set]
  have hm : ∀ s ∈ l.map (·.seq), s < h.next := fun s hs => by
   obtain ⟨p, hp, rfl⟩ := List.mem_map.1 hs
   exact (v.pays p hp).2
  have hnd := v.nodup
  show ((l.map (·.seq)).set n.toNat h.next).Nodup
  generalize l.map (·.seq) = xs at hm hnd ⊢
  rw [List.nodup_iff_pairwise_ne, List.pairwise_iff_getElem] at hnd ⊢
  intro i j hi hj hij
  simp only [List.length_set] at hi hj
  have e1 := hm xs[i] (List.getElem_mem hi)
  have e2 := hm xs[j] (List.getElem_mem hj)
  have e3 := hnd i j hi hj hij
  rw [List.getElem_set, List.getElem_set]
  split
  ·split
   ·omega
   ·omega
  ·split
   ·omega
   ·exact e3
theorem Inv.pay {h : Hs} {l : List Pay} (v : Inv h l) {p : Pay} (hg : goodPay p = true) (hs : p.seq = h.next) (h1 : p.st = 1) (hl : l.length < 24) (hn : h.next < 1048576) : Inv (h.setNext (h.next + 1)) (l ++ [p]) := by
 have hx := v.next
 have hd : ∀ f, dsum f (l ++ [p]) = dsum f l := fun f => by rw [dsum_app]; simp [dsum, h1]
 refine ⟨by simp; omega, by simp only [Hs.setNext]; omega, fun i h0 h1 => by rw [hd]; exact v.hi i h0 h1, v.cr, v.lim, fun i k h0 h1 k0 k1 => by rw [hd]; exact v.sent i k h0 h1 k0 k1, ?_, ?_⟩
 ·intro q hq
  rcases List.mem_append.1 hq with hq | hq
  ·have := v.pays q hq
   exact ⟨this.1, by have := this.2; simp only [Hs.setNext]; omega⟩
  ·simp only [List.mem_singleton] at hq
   subst hq
   exact ⟨hg, by simp only [Hs.setNext]; omega⟩
 ·rw [List.map_append]
  refine nodup_snoc v.nodup fun hm => ?_
  obtain ⟨q, hq, e⟩ := List.mem_map.1 hm
  have := (v.pays q hq).2
  simp only at e
  omega
theorem Inv.shut {h : Hs} {l : List Pay} (v : Inv h l) : Inv h (l.map Pay.shut) := by
 refine ⟨by simpa using v.len, v.next, fun i h0 h1 => by rw [dsum_shut]; exact v.hi i h0 h1, v.cr, v.lim, fun i k h0 h1 k0 k1 => by rw [dsum_shut]; exact v.sent i k h0 h1 k0 k1, ?_, ?_⟩
 ·intro p hp
  obtain ⟨q, hq, rfl⟩ := List.mem_map.1 hp
  refine ⟨shut_good (v.pays q hq).1, ?_⟩
  have := (v.pays q hq).2
  simp only [Pay.shut]
  split
  ·exact this
  ·exact this
 ·rw [List.map_map]
  have : (fun p : Pay => p.seq) ∘ Pay.shut = fun p => p.seq := by
   funext p
   simp only [Function.comp, Pay.shut]
   split <;> rfl
  rw [this]
  exact v.nodup
theorem Inv.credit {h : Hs} {l : List Pay} (v : Inv h l) (i n : Int) (hn : sm 0 n 1000000 = true) : Inv (h.setCr i n) l := by
 have hn := sm_true hn
 refine ⟨v.len, v.next, v.hi, fun k h0 h1 => ?_, v.lim, v.sent, v.pays, v.nodup⟩
 have := v.cr k h0 h1
 simp only [Hs.setCr]
 split <;> omega
theorem Inv.limit {h : Hs} {l : List Pay} (v : Inv h l) (i k n : Int) (hn : sm (-1) n 1000000 = true) : Inv (h.setLim i k n) l := by
 have hn := sm_true hn
 refine ⟨v.len, v.next, v.hi, v.cr, fun a b a0 a1 b0 b1 => ?_, v.sent, v.pays, v.nodup⟩
 have := v.lim a b a0 a1 b0 b1
 simp only [Hs.setLim]
 split <;> omega
theorem Inv.fund {h : Hs} {l : List Pay} (v : Inv h l) (i x : Int) (hx : x ≤ 549756813888) : Inv (h.setHas i x) l := by
 refine ⟨v.len, v.next, fun k h0 h1 => ?_, v.cr, v.lim, v.sent, v.pays, v.nodup⟩
 have := v.hi k h0 h1
 have := dsum_bound (toB k) l fun p hp => (v.pays p hp).1
 simp only [Hs.setHas]
 split <;> omega
theorem Inv.spend {h : Hs} {l : List Pay} (v : Inv h l) (i x : Int) (h0 : 0 ≤ i) (h1 : i < 4) (hx : x ≤ h.has i) : Inv (h.setHas i x) l := by
 refine ⟨v.len, v.next, fun k k0 k1 => ?_, v.cr, v.lim, v.sent, v.pays, v.nodup⟩
 have := v.hi k k0 k1
 have := v.hi i h0 h1
 simp only [Hs.setHas]
 split
 ·rename_i e; subst e; omega
 ·omega
theorem Low.set {h : Hs} (lo : Low h) (i x : Int) (hx : -1000000 ≤ x) : Low (h.setHas i x) := by
 intro k k0 k1
 have := lo k k0 k1
 simp only [Hs.setHas]
 split <;> omega

/-- What an act makes of a house, case by case: refused; swept; shut. -/
inductive Case (h : Hs) (l : List Pay) (a : Deed) : Nx → Prop where
 | err (c : Int) : c ≠ 0 → Case h l a (.err h l c)
 | pay : a.kind = 1 → goodPay (payOf h a) = true → l.length < 24 → h.next < 1048576 → Case h l a (.swept (h.setNext (h.next + 1)) (l ++ [payOf h a]) l.length [])
 | gone : a.kind = 2 → waitsAt l a.a = true → Case h l a (.swept h (l.set a.a.toNat (payAt l a.a.toNat).gone) 0 [])
 | last : a.kind = 3 → waitsAt l a.a = true → sm 0 a.c 2 = true → h.next < 1048576 → Case h l a (.swept (h.setNext (h.next + 1)) (l.set a.a.toNat ((payAt l a.a.toNat).last a.c h.next)) 0 [])
 | credit : a.kind = 4 → sm 0 a.a 3 = true → sm 0 a.n 1000000 = true → Case h l a (.swept (h.setCr a.a a.n) l 0 [])
 | limit : a.kind = 5 → sm 0 a.a 3 = true → sm 0 a.b 3 = true → a.a ≠ a.b → sm (-1) a.n 1000000 = true → Case h l a (.swept (h.setLim a.a a.b a.n) l 0 [])
 | fund : a.kind = 6 → sm 0 a.a 3 = true → sm 1 a.n 1000000 = true → h.has a.a < 549755813888 → Case h l a (.swept (h.setHas a.a (h.has a.a + a.n)) l 0 [])
 | spend : a.kind = 7 → sm 0 a.a 3 = true → sm 1 a.n 1000000 = true → a.n ≤ h.has a.a + h.cr a.a → Case h l a (.swept (h.setHas a.a (h.has a.a - a.n)) l 0 [])
 | untie : a.kind = 8 → Case h l a (.swept (untieS h l).h (untieS h l).l (untieS h l).d.length (untieS h l).d)
 | shut : a.kind = 9 → Case h l a ⟨h, l.map Pay.shut, 0, waiting l, []⟩
theorem not_or_false {b c : Bool} (h : ¬ (b = false ∨ c = false)) : b = true ∧ c = true := by
 cases b <;> cases c <;> simp_all
theorem next_case (h : Hs) (l : List Pay) (a : Deed) : Case h l a (nextL h l a) := by
 have e : ∀ c : Int, c ≠ 0 → Case h l a (.err h l c) := fun c hc => .err c hc
 have bt : ∀ b : Bool, ¬ b = false → b = true := fun b hb => by cases b <;> simp_all
 unfold nextL
 refine iteInduction (fun _ => e 1 (by decide)) fun _ => iteInduction (fun hk => ?_) fun _ => iteInduction (fun hk => ?_) fun _ => iteInduction (fun hk => ?_) fun _ => iteInduction (fun hk => ?_) fun _ => iteInduction (fun hk => ?_) fun _ => iteInduction (fun hk => ?_) fun _ => iteInduction (fun hk => ?_) fun _ => iteInduction (fun hk => .untie hk) fun _ => iteInduction (fun hk => .shut hk) fun _ => e 2 (by decide)
 ·exact iteInduction (fun _ => e 3 (by decide)) fun h1 => iteInduction (fun _ => e 5 (by decide)) fun h2 => .pay hk (bt _ h1) (by omega) (by omega)
 ·exact iteInduction (fun _ => e 4 (by decide)) fun h1 => .gone hk (bt _ h1)
 ·exact iteInduction (fun _ => e 4 (by decide)) fun h1 => iteInduction (fun _ => e 3 (by decide)) fun h2 => iteInduction (fun _ => e 5 (by decide)) fun h3 => .last hk (bt _ h1) (bt _ h2) (by omega)
 ·exact iteInduction (fun _ => e 3 (by decide)) fun h1 => .credit hk (not_or_false h1).1 (not_or_false h1).2
 ·refine iteInduction (fun _ => e 3 (by decide)) fun h1 => ?_
  obtain ⟨h1, h2⟩ := not_or.1 h1
  obtain ⟨h2, h3⟩ := not_or.1 h2
  obtain ⟨h3, h4⟩ := not_or.1 h3
  exact .limit hk (bt _ h1) (bt _ h2) h3 (bt _ h4)
 ·exact iteInduction (fun _ => e 3 (by decide)) fun h1 => iteInduction (fun _ => e 5 (by decide)) fun h2 => .fund hk (not_or_false h1).1 (not_or_false h1).2 (by omega)
 ·exact iteInduction (fun _ => e 3 (by decide)) fun h1 => iteInduction (fun _ => e 6 (by decide)) fun h2 => .spend hk (not_or_false h1).1 (not_or_false h1).2 (by omega)
theorem shut_none (l : List Pay) (b : Int) : ofL (l.map Pay.shut) b = [] := by
 cases hq : ofL (l.map Pay.shut) b with
 | nil => rfl
 | cons i xs =>
  have hi := (ofL_mem (l := l.map Pay.shut) (bank := b) (i := i)).1 (by rw [hq]; simp)
  have hl : i < l.length := by simpa using hi.1
  have e : payAt (l.map Pay.shut) i = (payAt l i).shut := payAt_some (by rw [List.getElem?_map, payAt_get hl]; rfl)
  have := hi.2.1
  rw [e] at this
  simp only [Pay.shut] at this
  split at this
  ·simp [Pay.gone] at this
  ·omega
/-- Behind an act the house is good, and nobody may do the first of its payments. -/
structure Good3 (h : Hs) (l : List Pay) : Prop where
 inv : Inv h l
 low : Low h
 rest : Rests ⟨h, l, []⟩
theorem rests_d {h : Hs} {l : List Pay} {d e : List Nat} (r : Rests ⟨h, l, d⟩) : Rests ⟨h, l, e⟩ := fun b hb i xs hq => r b hb i xs hq
theorem good3_swept {h : Hs} {l : List Pay} (n : Int) (pre : List Nat) (v : Inv h l) (lo : Low h) : Good3 (Nx.swept h l n pre).h (Nx.swept h l n pre).l := by
 obtain ⟨h1, h2⟩ := v.sweep lo
 exact ⟨h1, h2, rests_d (sweep_restsG (v.goodB lo))⟩
theorem Good3.next {h : Hs} {l : List Pay} (g : Good3 h l) (a : Deed) : Good3 (nextL h l a).h (nextL h l a).l := by
 have hc := next_case h l a
 revert hc
 generalize nextL h l a = x
 intro hc
 cases hc with
 | err c _ => exact g
 | pay hk h1 h2 h3 => exact good3_swept _ _ (g.inv.pay h1 rfl rfl h2 h3) g.low
 | gone hk h1 => exact good3_swept _ _ (g.inv.gone h1) g.low
 | last hk h1 h2 h3 => exact good3_swept _ _ (g.inv.last h1 h2 h3) g.low
 | credit hk h1 h2 => exact good3_swept _ _ (g.inv.credit _ _ h2) g.low
 | limit hk h1 h2 h3 h4 => exact good3_swept _ _ (g.inv.limit _ _ _ h4) g.low
 | fund hk h1 h2 h3 =>
  have h1 := sm_true h1; have h2 := sm_true h2
  have := g.low a.a (by omega) (by omega)
  exact good3_swept _ _ (g.inv.fund _ _ (by omega)) (g.low.set _ _ (by omega))
 | spend hk h1 h2 h3 =>
  have h1 := sm_true h1; have h2 := sm_true h2
  have := g.inv.cr a.a (by omega) (by omega)
  exact good3_swept _ _ (g.inv.spend _ _ (by omega) (by omega) (by omega)) (g.low.set _ _ (by omega))
 | untie hk =>
  obtain ⟨h1, h2⟩ := g.inv.untie g.low
  exact good3_swept _ _ h1 h2
 | shut hk => exact ⟨g.inv.shut, g.low, fun b _ i xs hq => by rw [shut_none] at hq; cases hq⟩
theorem good3_new : Good3 Hs.new [] where
 inv := ⟨by simp, by simp [Hs.new], fun i _ _ => by simp [Hs.new, dsum], fun i _ _ => by simp [Hs.new], fun i k _ _ _ _ => by simp [Hs.new], fun i k _ _ _ _ => by simp [Hs.new, dsum], by simp, by simp⟩
 low := fun i _ _ => by simp [Hs.new]
 rest := fun b _ i xs hq => by
  have := (ofL_mem (l := []) (bank := (b : Int)) (i := i)).1 (by rw [hq]; simp)
  simp at this
end Go.Proofs.Ytggfdkkhlokmlab

namespace Go.Proofs.Ytggfdkkhlokmlab

theorem oneL_app {x : Deed} (hn : noted x = true) (t : List UInt8) : oneL (frame x ++ t) = some (x, (frame x).length) :=
 oneL_of ⟨hn, by rw [List.take_append_of_le_length (Nat.le_refl _), List.take_length]⟩
theorem rd_cons {x : Deed} (hn : noted x = true) (t : List UInt8) : rd (frame x ++ t) = (x :: (rd t).1, (frame x).length + (rd t).2) := by
 rw [rd_some (oneL_app hn t), List.drop_append_of_le_length (Nat.le_refl _), List.drop_length, List.nil_append]
theorem text_cons (x : Deed) (l : List Deed) : text (x :: l) = frame x ++ text l := by simp [text]
theorem text_app (l k : List Deed) : text (l ++ k) = text l ++ text k := by simp [text]
theorem text_one (x : Deed) : text [x] = frame x := by simp [text]
theorem rd_app : ∀ (l : List Deed) (t : List UInt8), (∀ x ∈ l, noted x = true) → rd (text l ++ t) = (l ++ (rd t).1, (text l).length + (rd t).2)
 | [], t, _ => by simp [text]
 | x :: l, t, h => by
  rw [text_cons, List.append_assoc, rd_cons (h x (by simp)), rd_app l t fun y hy => h y (by simp [hy])]
  simp [Nat.add_assoc]
/-- A part of a frame is none. -/
theorem oneL_part {x : Deed} (hn : noted x = true) {k : Nat} (hk : k < (frame x).length) : oneL ((frame x).take k) = none := by
 cases h : oneL ((frame x).take k) with
 | none => rfl
 | some q =>
  obtain ⟨y, m⟩ := q
  obtain ⟨⟨hy, hf⟩, hm, hle⟩ := oneL_sound h
  exfalso
  have hb := body_len hn
  have hb' := body_len hy
  rw [List.length_take] at hle
  rw [List.take_take, Nat.min_eq_left (by omega)] at hf
  have h3 : 0 < (frame y).length := by rw [frame_len]; omega
  have h0 : (frame y)[0]? = (frame x)[0]? := by rw [hf, List.getElem?_take_of_lt h3]
  have e : UInt8.ofNat (body y).length = UInt8.ofNat (body x).length := by simpa [frame] using h0
  have e' := congrArg UInt8.toNat e
  rw [ofNat_small (by omega), ofNat_small (by omega)] at e'
  have h1 := frame_len x
  have h2 := frame_len y
  omega
theorem rd_part {x : Deed} (hn : noted x = true) {k : Nat} (hk : k < (frame x).length) : rd ((frame x).take k) = ([], 0) := rd_none (oneL_part hn hk)
theorem rd_whole (l : List Deed) (h : ∀ x ∈ l, noted x = true) : rd (text l) = (l, (text l).length) := by
 have := rd_app l [] h
 rw [List.append_nil, rd_none (s := []) rfl] at this
 simpa using this
/-- What is read of a book of which the last frame may be cut. -/
theorem rd_cut (l : List Deed) (h : ∀ x ∈ l, noted x = true) {x : Deed} (hn : noted x = true) {k : Nat} (hk : k < (frame x).length) : rd (text l ++ (frame x).take k) = (l, (text l).length) := by
 rw [rd_app l _ h, rd_part hn hk]; simp
/-! ### a bank at work -/
structure Bk where
 h : Hs
 l : List Pay
 text : List UInt8
 down : Bool
 fail : Int
 acts : Nat
structure Rp where
 code : Int
 n : Int
 done : List Nat
def Rp.no (c : Int) : Rp := ⟨c, 0, []⟩
def Bk.new : Bk := ⟨Hs.new, [], [], false, -1, 0⟩
noncomputable def replayFrom (s : Hs × List Pay) (l : List Deed) : Hs × List Pay := l.foldl (fun s a => ((nextL s.1 s.2 a).h, (nextL s.1 s.2 a).l)) s
noncomputable def replayL (l : List Deed) : Hs × List Pay := replayFrom (Hs.new, []) l
theorem replay_snoc (l : List Deed) (a : Deed) : replayL (l ++ [a]) = ((nextL (replayL l).1 (replayL l).2 a).h, (nextL (replayL l).1 (replayL l).2 a).l) := by
 simp [replayL, replayFrom]
/-- The bank behind its count. -/
def Bk.tick (B : Bk) : Bk := { B with acts := B.acts + 1 }
/-- P5.7 to P5.9. -/
noncomputable def doL (B : Bk) (a : Deed) : Bk × Rp :=
 if 200 ≤ B.acts then (B, .no 5)
 else if a.kind = 11 then
  if B.down = false then (B.tick, .no 2)
  else ({ B.tick with h := (replayL (rd B.text).1).1, l := (replayL (rd B.text).1).2, text := B.text.take (rd B.text).2, down := false }, ⟨0, (rd B.text).1.length, []⟩)
 else if B.down = true then (B.tick, .no 7)
 else if a.kind = 10 then
  if sm 0 a.n 4000 = false then (B.tick, .no 3) else ({ B.tick with fail := a.n }, .no 0)
 else if (nextL B.h B.l a).code ≠ 0 then (B.tick, .no (nextL B.h B.l a).code)
 else if noted a = false then (B.tick, .no 3)
 else if 4000 < B.text.length + (frame a).length then (B.tick, .no 5)
 else if 0 ≤ B.fail then ({ B.tick with text := B.text ++ (frame a).take (min B.fail.toNat (frame a).length), fail := -1, down := true }, .no 7)
 else ({ B.tick with text := B.text ++ frame a, h := (nextL B.h B.l a).h, l := (nextL B.h B.l a).l }, ⟨0, (nextL B.h B.l a).n, (nextL B.h B.l a).done⟩)
theorem next_refused {h : Hs} {l : List Pay} {a : Deed} (hc : (nextL h l a).code ≠ 0) : (nextL h l a).h = h ∧ (nextL h l a).l = l ∧ (nextL h l a).n = 0 ∧ (nextL h l a).done = [] := by
 have hx := next_case h l a
 revert hx hc
 generalize nextL h l a = x
 intro hc hx
 cases hx <;> first | exact ⟨rfl, rfl, rfl, rfl⟩ | exact absurd rfl hc
/-- What holds of a bank at work: its house is what its log makes; log: what was written down whole. -/
structure Work (B : Bk) (log : List Deed) : Prop where
 noted : ∀ x ∈ log, noted x = true
 house : replayL log = (B.h, B.l)
 up : B.down = false → B.text = text log
 cut : B.down = true → ∃ (x : Deed) (k : Nat), Go.Proofs.Ytggfdkkhlokmlab.noted x = true ∧ (nextL B.h B.l x).code = 0 ∧ k ≤ (frame x).length ∧ B.text = text log ++ (frame x).take k
 small : B.text.length ≤ 4000
 acts : B.acts ≤ 200
theorem good3_replay : ∀ (l : List Deed) (s : Hs × List Pay), Good3 s.1 s.2 → Good3 (replayFrom s l).1 (replayFrom s l).2
 | [], _, h => h
 | a :: l, _, h => good3_replay l _ (h.next a)
theorem Work.good {B : Bk} {log : List Deed} (k : Work B log) : Good3 B.h B.l := by
 have := good3_replay log (Hs.new, []) good3_new
 rw [show replayFrom (Hs.new, []) log = replayL log from rfl, k.house] at this
 exact this
theorem Work.tick {B : Bk} {log : List Deed} (k : Work B log) (h : ¬ 200 ≤ B.acts) : Work B.tick log := ⟨k.noted, k.house, k.up, k.cut, k.small, by simp only [Bk.tick]; omega⟩
end Go.Proofs.Ytggfdkkhlokmlab

namespace Go.Proofs.Ytggfdkkhlokmlab

def NotDown (x : Nx) : Prop := x.code ≠ 7
theorem next_code (h : Hs) (l : List Pay) (a : Deed) : (nextL h l a).code ≠ 7 := by
 show NotDown (nextL h l a)
 unfold nextL
 have he : ∀ c : Int, c ≠ 7 → NotDown (Nx.err h l c) := fun c hc => hc
 have hs : ∀ (x : Hs) (k : List Pay) (n : Int) (p : List Nat), NotDown (Nx.swept x k n p) := fun _ _ _ _ => by simp [NotDown, Nx.swept]
 repeat' (refine iteInduction (fun _ => ?_) (fun _ => ?_))
 all_goals first | exact hs _ _ _ _ | exact he _ (by decide) | simp [NotDown]

/-- What an act makes of a bank, case by case. -/
inductive DoCase (B : Bk) (a : Deed) : Bk × Rp → Prop where
 | full : 200 ≤ B.acts → DoCase B a (B, .no 5)
 | openUp : B.acts < 200 → a.kind = 11 → B.down = false → DoCase B a (B.tick, .no 2)
 | opened : B.acts < 200 → a.kind = 11 → B.down = true → DoCase B a ({ B.tick with h := (replayL (rd B.text).1).1, l := (replayL (rd B.text).1).2, text := B.text.take (rd B.text).2, down := false }, ⟨0, (rd B.text).1.length, []⟩)
 | down : B.acts < 200 → a.kind ≠ 11 → B.down = true → DoCase B a (B.tick, .no 7)
 | failBad : B.acts < 200 → a.kind = 10 → B.down = false → sm 0 a.n 4000 = false → DoCase B a (B.tick, .no 3)
 | failSet : B.acts < 200 → a.kind = 10 → B.down = false → sm 0 a.n 4000 = true → DoCase B a ({ B.tick with fail := a.n }, .no 0)
 | refused : B.acts < 200 → a.kind ≠ 10 → a.kind ≠ 11 → B.down = false → (nextL B.h B.l a).code ≠ 0 → DoCase B a (B.tick, .no (nextL B.h B.l a).code)
 | notNoted : B.acts < 200 → a.kind ≠ 10 → a.kind ≠ 11 → B.down = false → (nextL B.h B.l a).code = 0 → noted a = false → DoCase B a (B.tick, .no 3)
 | bookFull : B.acts < 200 → a.kind ≠ 10 → a.kind ≠ 11 → B.down = false → (nextL B.h B.l a).code = 0 → noted a = true → 4000 < B.text.length + (frame a).length → DoCase B a (B.tick, .no 5)
 | lost : B.acts < 200 → a.kind ≠ 10 → a.kind ≠ 11 → B.down = false → (nextL B.h B.l a).code = 0 → noted a = true → B.text.length + (frame a).length ≤ 4000 → 0 ≤ B.fail →
   DoCase B a ({ B.tick with text := B.text ++ (frame a).take (min B.fail.toNat (frame a).length), fail := -1, down := true }, .no 7)
 | done : B.acts < 200 → a.kind ≠ 10 → a.kind ≠ 11 → B.down = false → (nextL B.h B.l a).code = 0 → noted a = true → B.text.length + (frame a).length ≤ 4000 → B.fail < 0 →
   DoCase B a ({ B.tick with text := B.text ++ frame a, h := (nextL B.h B.l a).h, l := (nextL B.h B.l a).l }, ⟨0, (nextL B.h B.l a).n, (nextL B.h B.l a).done⟩)
theorem do_case (B : Bk) (a : Deed) : DoCase B a (doL B a) := by
 unfold doL
 have bt : ∀ b : Bool, ¬ b = false → b = true := fun b hb => by cases b <;> simp_all
 have bf : ∀ b : Bool, ¬ b = true → b = false := fun b hb => by cases b <;> simp_all
 refine iteInduction (fun h => .full h) fun h0 => ?_
 have h0 : B.acts < 200 := by omega
 refine iteInduction (fun h1 => iteInduction (fun h2 => .openUp h0 h1 h2) fun h2 => .opened h0 h1 (bt _ h2)) fun h1 => ?_
 refine iteInduction (fun h2 => .down h0 h1 h2) fun h2 => ?_
 have h2 := bf _ h2
 refine iteInduction (fun h3 => iteInduction (fun h4 => .failBad h0 h3 h2 h4) fun h4 => .failSet h0 h3 h2 (bt _ h4)) fun h3 => ?_
 refine iteInduction (fun h4 => .refused h0 h3 h1 h2 h4) fun h4 => ?_
 have h4 : (nextL B.h B.l a).code = 0 := Decidable.of_not_not h4
 refine iteInduction (fun h5 => .notNoted h0 h3 h1 h2 h4 h5) fun h5 => ?_
 refine iteInduction (fun h6 => .bookFull h0 h3 h1 h2 h4 (bt _ h5) h6) fun h6 => ?_
 exact iteInduction (fun h7 => .lost h0 h3 h1 h2 h4 (bt _ h5) (by omega) h7) fun h7 => .done h0 h3 h1 h2 h4 (bt _ h5) (by omega) (by omega)

/-- The log behind an act: what is written down whole; what was on its way when the power went. -/
noncomputable def stepLog (B : Bk) (g : List Deed × List Deed) (a : Deed) : List Deed × List Deed :=
 if a.kind = 11 ∧ (doL B a).2.code = 0 then (if (doL B a).2.n = (g.1.length : Int) then g.1 else g.1 ++ g.2, [])
 else if a.kind = 10 ∨ a.kind = 11 then g
 else if (doL B a).2.code = 7 ∧ g.2 = [] then (g.1, [a])
 else if (doL B a).2.code = 0 then (g.1 ++ [a], [])
 else g
structure Works (B : Bk) (g : List Deed × List Deed) : Prop where
 noted : ∀ x ∈ g.1, noted x = true
 house : replayL g.1 = (B.h, B.l)
 up : B.down = false → B.text = text g.1 ∧ g.2 = []
 cut : B.down = true → ∃ (x : Deed) (k : Nat), g.2 = [x] ∧ Go.Proofs.Ytggfdkkhlokmlab.noted x = true ∧ (nextL B.h B.l x).code = 0 ∧ k ≤ (frame x).length ∧ B.text = text g.1 ++ (frame x).take k
 small : B.text.length ≤ 4000
 fail : -1 ≤ B.fail ∧ B.fail ≤ 4000
 acts : B.acts ≤ 200
theorem works_new : Works Bk.new ([], []) := ⟨by simp, rfl, fun _ => ⟨rfl, rfl⟩, (fun h => by cases h), by simp [Bk.new], by simp [Bk.new], by simp [Bk.new]⟩
theorem Works.good {B : Bk} {g : List Deed × List Deed} (k : Works B g) : Good3 B.h B.l := by
 have := good3_replay g.1 (Hs.new, []) good3_new
 rw [show replayFrom (Hs.new, []) g.1 = replayL g.1 from rfl, k.house] at this
 exact this
theorem Works.tick {B : Bk} {g : List Deed × List Deed} (k : Works B g) (h : B.acts < 200) : Works B.tick g := ⟨k.noted, k.house, k.up, k.cut, k.small, k.fail, by simp only [Bk.tick]; omega⟩
/-- What is read when the power is back. -/
theorem Works.back {B : Bk} {g : List Deed × List Deed} (k : Works B g) (hd : B.down = true) :
  (rd B.text = (g.1, (text g.1).length) ∧ B.text.take (text g.1).length = text g.1) ∨ (∃ x, g.2 = [x] ∧ Go.Proofs.Ytggfdkkhlokmlab.noted x = true ∧ B.text = text (g.1 ++ [x]) ∧ rd B.text = (g.1 ++ [x], B.text.length)) := by
 obtain ⟨x, n, hx, hn, _, hk, ht⟩ := k.cut hd
 by_cases e : n < (frame x).length
 ·left
  rw [ht]
  exact ⟨rd_cut g.1 k.noted hn e, by rw [List.take_append_of_le_length (Nat.le_refl _), List.take_length]⟩
 ·right
  obtain rfl : n = (frame x).length := by omega
  have e2 : B.text = text (g.1 ++ [x]) := by rw [ht, List.take_length, text_app, text_one]
  refine ⟨x, hx, hn, e2, ?_⟩
  rw [e2]
  exact rd_whole _ fun y hy => by
   rcases List.mem_append.1 hy with h | h
   ·exact k.noted y h
   ·simp only [List.mem_singleton] at h; subst h; exact hn
theorem Works.step {B : Bk} {g : List Deed × List Deed} (k : Works B g) (a : Deed) : Works (doL B a).1 (stepLog B g a) := by
 have hc := do_case B a
 unfold stepLog
 revert hc
 generalize doL B a = x
 intro hc
 cases hc with
 | full h0 =>
  rw [if_neg (fun e => by have := e.2; simp [Rp.no] at this), if_neg (c := (Rp.no 5).code = 7 ∧ _) (fun e => by have := e.1; simp [Rp.no] at this), if_neg (c := (Rp.no 5).code = 0) (by simp [Rp.no])]
  split <;> exact k
 | openUp h0 h1 h2 =>
  rw [if_neg (fun e => by have := e.2; simp [Rp.no] at this), if_pos (.inr h1)]
  exact k.tick h0
 | opened h0 h1 h2 =>
  rw [if_pos ⟨h1, rfl⟩]
  rcases k.back h2 with ⟨hr, ht⟩ | ⟨x, hx, hn, ht, hr⟩
  ·rw [hr]
   simp only [if_true]
   exact ⟨k.noted, rfl, fun _ => ⟨ht, rfl⟩, (fun h => by cases h), by rw [ht]; have := k.small; rw [← ht, List.length_take] ; omega, k.fail, by simp only [Bk.tick]; omega⟩
  ·rw [hr]
   simp only [List.take_length]
   rw [if_neg (by simp; omega), hx]
   refine ⟨fun y hy => ?_, rfl, fun _ => ⟨ht, rfl⟩, (fun h => by cases h), k.small, k.fail, by simp only [Bk.tick]; omega⟩
   rcases List.mem_append.1 hy with h | h
   ·exact k.noted y h
   ·simp only [List.mem_singleton] at h; subst h; exact hn
 | down h0 h1 h2 =>
  obtain ⟨x, n, hx, _⟩ := k.cut h2
  rw [if_neg (fun e => h1 e.1), if_neg (c := (Rp.no 7).code = 7 ∧ _) (fun e => by rw [e.2] at hx; cases hx), if_neg (c := (Rp.no 7).code = 0) (by simp [Rp.no])]
  split <;> exact k.tick h0
 | failBad h0 h1 h2 h3 =>
  rw [if_neg (fun e => by have := e.1; omega), if_pos (.inl h1)]
  exact k.tick h0
 | failSet h0 h1 h2 h3 =>
  rw [if_neg (fun e => by have := e.1; omega), if_pos (.inl h1)]
  have h3 := sm_true h3
  have k' := k.tick h0
  exact ⟨k'.noted, k'.house, k'.up, k'.cut, k'.small, by simp only; omega, k'.acts⟩
 | refused h0 h1 h2 h3 h4 =>
  rw [if_neg (fun e => h2 e.1), if_neg (c := a.kind = 10 ∨ _) (by omega), if_neg (c := (Rp.no _).code = 7 ∧ _) (fun e => next_code _ _ _ e.1), if_neg (c := (Rp.no _).code = 0) h4]
  exact k.tick h0
 | notNoted h0 h1 h2 h3 h4 h5 =>
  rw [if_neg (fun e => h2 e.1), if_neg (c := a.kind = 10 ∨ _) (by omega), if_neg (c := (Rp.no 3).code = 7 ∧ _) (fun e => by have := e.1; simp [Rp.no] at this), if_neg (c := (Rp.no 3).code = 0) (by simp [Rp.no])]
  exact k.tick h0
 | bookFull h0 h1 h2 h3 h4 h5 h6 =>
  rw [if_neg (fun e => h2 e.1), if_neg (c := a.kind = 10 ∨ _) (by omega), if_neg (c := (Rp.no 5).code = 7 ∧ _) (fun e => by have := e.1; simp [Rp.no] at this), if_neg (c := (Rp.no 5).code = 0) (by simp [Rp.no])]
  exact k.tick h0
 | lost h0 h1 h2 h3 h4 h5 h6 h7 =>
  obtain ⟨hu, hl⟩ := k.up h3
  rw [if_neg (fun e => h2 e.1), if_neg (c := a.kind = 10 ∨ _) (by omega), if_pos (c := (Rp.no 7).code = 7 ∧ _) ⟨rfl, hl⟩]
  refine ⟨k.noted, k.house, (fun h => by cases h), fun _ => ⟨a, min B.fail.toNat (frame a).length, rfl, h5, h4, Nat.min_le_right _ _, by simp only; rw [hu]⟩, ?_, by simp, by simp only [Bk.tick]; omega⟩
  simp only [List.length_append, List.length_take]
  omega
 | done h0 h1 h2 h3 h4 h5 h6 h7 =>
  obtain ⟨hu, hl⟩ := k.up h3
  rw [if_neg (fun e => h2 e.1), if_neg (c := a.kind = 10 ∨ _) (by omega), if_neg (fun e => by have := e.1; simp at this), if_pos rfl]
  refine ⟨fun y hy => ?_, by rw [replay_snoc, k.house], fun _ => ⟨by simp only; rw [hu, text_app, text_one], rfl⟩, (fun h => by rw [show B.tick.down = B.down from rfl, h3] at h; cases h), by simp only [List.length_append]; exact h6, k.fail, by simp only [Bk.tick]; omega⟩
  rcases List.mem_append.1 hy with h | h
  ·exact k.noted y h
  ·simp only [List.mem_singleton] at h; subst h; exact h5
theorem do_acts (B : Bk) (a : Deed) (h : B.acts < 200) : (doL B a).1.acts = B.acts + 1 := by
 have hc := do_case B a
 revert hc
 generalize doL B a = x
 intro hc
 cases hc <;> first | omega | rfl
/-- The bank and its log behind acts. -/
noncomputable def runB : List Deed → Bk → Bk
 | [], B => B
 | a :: l, B => runB l (doL B a).1
noncomputable def runG : List Deed → Bk → List Deed × List Deed → List Deed × List Deed
 | [], _, g => g
 | a :: l, B, g => runG l (doL B a).1 (stepLog B g a)
theorem runB_app : ∀ (l k : List Deed) (B : Bk), runB (l ++ k) B = runB k (runB l B)
 | [], _, _ => rfl
 | _ :: l, k, _ => runB_app l k _
theorem works_run : ∀ (l : List Deed) (B : Bk) (g : List Deed × List Deed), Works B g → Works (runB l B) (runG l B g)
 | [], _, _, k => k
 | a :: l, _, _, k => works_run l _ _ (k.step a)
theorem run_works (l : List Deed) : Works (runB l Bk.new) (runG l Bk.new ([], [])) := works_run l _ _ works_new
theorem run_acts : ∀ (l : List Deed) (B : Bk), B.acts + l.length ≤ 200 → (runB l B).acts = B.acts + l.length
 | [], _, _ => rfl
 | a :: l, B, h => by
  simp only [List.length_cons] at h
  have := do_acts B a (by omega)
  rw [runB, run_acts l _ (by omega), this]
  simp only [List.length_cons]; omega
end Go.Proofs.Ytggfdkkhlokmlab

namespace Go.Proofs.Ytggfdkkhlokmlab

/-! ### states -/
/-- Of the payments l those of d, that waited, were done: l'. -/
structure Ext (l l' : List Pay) (d : List Nat) : Prop where
 len : l'.length = l.length
 nodup : d.Nodup
 lt : ∀ i ∈ d, i < l.length
 was : ∀ i ∈ d, (payAt l i).st = 1
 now : ∀ i ∈ d, (payAt l' i).st = 2
 rest : ∀ i, i ∉ d → payAt l' i = payAt l i
theorem Ext.refl (l : List Pay) : Ext l l [] := ⟨rfl, by simp, by simp, by simp, by simp, fun _ _ => rfl⟩
theorem nodup_snocN {d : List Nat} {i : Nat} (h : d.Nodup) (hi : i ∉ d) : (d ++ [i]).Nodup := by
 rw [List.nodup_append]
 exact ⟨h, by simp, fun x hx y hy e => by simp only [List.mem_singleton] at hy; subst hy; subst e; exact hi hx⟩
theorem Ext.settle {l l' : List Pay} {d : List Nat} (e : Ext l l' d) {i : Nat} (hi : i < l'.length) (h1 : (payAt l' i).st = 1) : Ext l (settled l' i) (d ++ [i]) := by
 have hn : i ∉ d := fun hd => by have := e.now i hd; omega
 have hr := e.rest i hn
 refine ⟨by rw [settled_len, e.len], nodup_snocN e.nodup hn, fun j hj => ?_, fun j hj => ?_, fun j hj => ?_, fun j hj => ?_⟩
 ·rcases List.mem_append.1 hj with h | h
  ·exact e.lt j h
  ·simp only [List.mem_singleton] at h; subst h; rw [← e.len]; exact hi
 ·rcases List.mem_append.1 hj with h | h
  ·exact e.was j h
  ·simp only [List.mem_singleton] at h; subst h; rw [← hr]; exact h1
 ·rcases List.mem_append.1 hj with h | h
  ·have : i ≠ j := fun e' => hn (e' ▸ h)
   rw [settled_ne this]; exact e.now j h
  ·simp only [List.mem_singleton] at h; subst h; rw [settled_same hi]; rfl
 ·have h1 : j ∉ d := fun h => hj (by simp [h])
  have h2 : i ≠ j := fun h => hj (by simp [h])
  rw [settled_ne h2, e.rest j h1]
theorem Ext.trans {l k m : List Pay} {d e : List Nat} (h : Ext l k d) (h' : Ext k m e) : Ext l m (d ++ e) := by
 have hd : ∀ i ∈ d, i ∉ e := fun i h1 h2 => by have := h.now i h1; have := h'.was i h2; omega
 refine ⟨by rw [h'.len, h.len], ?_, fun j hj => ?_, fun j hj => ?_, fun j hj => ?_, fun j hj => ?_⟩
 ·rw [List.nodup_append]
  exact ⟨h.nodup, h'.nodup, fun i hi j hj e => by subst e; exact hd i hi hj⟩
 ·rcases List.mem_append.1 hj with h1 | h1
  ·exact h.lt j h1
  ·have := h'.lt j h1; rw [h.len] at this; exact this
 ·rcases List.mem_append.1 hj with h1 | h1
  ·exact h.was j h1
  ·have h2 : j ∉ d := fun h2 => hd j h2 h1
   rw [← h.rest j h2]; exact h'.was j h1
 ·rcases List.mem_append.1 hj with h1 | h1
  ·rw [h'.rest j (hd j h1)]; exact h.now j h1
  ·exact h'.now j h1
 ·rw [h'.rest j (fun h1 => hj (by simp [h1])), h.rest j (fun h1 => hj (by simp [h1]))]
theorem sweep_ext (h : Hs) (l : List Pay) : Ext l (sweepG h l).l (sweepG h l).d := by
 unfold sweepG
 split
 ·rename_i g
  exact (visits_ind (fun S => Ext l S.l S.d ∧ (S.l.map (·.seq)).Nodup) (fun S hS => hS.2) (fun b S i xs _ hS hq _ => by
   have hi := (ofL_mem (l := S.l) (bank := b) (i := i)).1 (by rw [hq]; simp)
   exact ⟨hS.1.settle hi.1 hi.2.1, by rw [settle_seqs]; exact hS.2⟩) ⟨h, l, []⟩ ⟨Ext.refl l, (goodB_true g).nodup⟩ _).1
 ·exact Ext.refl l
theorem untie_ext (h : Hs) (l : List Pay) : Ext l (untieS h l).l (untieS h l).d := by
 unfold untieS
 split
 ·exact settleAll_ind (fun S => Ext l S.l S.d) _ _ (firsts_nodup l _ 4) (fun i hi => firsts_wait hi) (fun S i hS hi h1 => hS.settle hi h1) (Ext.refl l)
 ·exact Ext.refl l
/-- An act's own work on the payments: nothing that was done or gone is touched. -/
structure Pre (l l' : List Pay) : Prop where
 len : l.length ≤ l'.length
 stay : ∀ i, i < l.length → (payAt l i).st ≠ 1 → (payAt l' i).st = (payAt l i).st
 two : ∀ i, i < l'.length → (payAt l' i).st = 2 → i < l.length ∧ (payAt l i).st = 2
theorem Pre.refl (l : List Pay) : Pre l l := ⟨Nat.le_refl _, fun _ _ _ => rfl, fun _ h h' => ⟨h, h'⟩⟩
theorem payAt_set {l : List Pay} {i : Nat} (h : i < l.length) (q : Pay) : payAt (l.set i q) i = q := payAt_some (by simp [h])
theorem payAt_set_ne {l : List Pay} {i k : Nat} (h : i ≠ k) (q : Pay) : payAt (l.set i q) k = payAt l k := by simp [payAt, List.getD, List.getElem?_set_ne h]
theorem Pre.set {l : List Pay} {i : Nat} (h1 : (payAt l i).st = 1) (q : Pay) (hq : q.st ≠ 2) : Pre l (l.set i q) := by
 refine ⟨by simp, fun k hk hs => ?_, fun k hk hs => ?_⟩
 ·have : i ≠ k := fun e => hs (e ▸ h1)
  rw [payAt_set_ne this]
 ·rw [List.length_set] at hk
  by_cases e : i = k
  ·subst e; rw [payAt_set hk] at hs; exact absurd hs hq
  ·rw [payAt_set_ne e] at hs; exact ⟨hk, hs⟩
theorem payAt_app {l : List Pay} {p : Pay} {i : Nat} (h : i < l.length) : payAt (l ++ [p]) i = payAt l i := by
 simp [payAt, List.getD, List.getElem?_append_left h]
theorem payAt_last (l : List Pay) (p : Pay) : payAt (l ++ [p]) l.length = p := payAt_some (by simp)
theorem Pre.app (l : List Pay) (p : Pay) (hp : p.st = 1) : Pre l (l ++ [p]) := by
 refine ⟨by simp, fun i hi _ => by rw [payAt_app hi], fun i hi hs => ?_⟩
 by_cases e : i < l.length
 ·rw [payAt_app e] at hs; exact ⟨e, hs⟩
 ·simp only [List.length_append, List.length_singleton] at hi
  obtain rfl : i = l.length := by omega
  rw [payAt_last] at hs; omega
theorem payAt_shut {l : List Pay} {i : Nat} (h : i < l.length) : payAt (l.map Pay.shut) i = (payAt l i).shut := payAt_some (by rw [List.getElem?_map, payAt_get h]; rfl)
theorem shut_st (p : Pay) : p.shut.st = if p.st = 1 then 3 else p.st := by
 unfold Pay.shut; split <;> rfl
theorem Pre.shut (l : List Pay) : Pre l (l.map Pay.shut) := by
 refine ⟨by simp, fun i hi hs => ?_, fun i hi hs => ?_⟩
 ·rw [payAt_shut hi, shut_st, if_neg hs]
 ·simp only [List.length_map] at hi
  rw [payAt_shut hi, shut_st] at hs
  split at hs
  ·omega
  ·exact ⟨hi, hs⟩
/-- What is done or gone stays so; what is done newly is told, each once. -/
structure Told (l l' : List Pay) (d : List Nat) : Prop where
 len : l.length ≤ l'.length
 stay : ∀ i, i < l.length → (payAt l i).st ≠ 1 → (payAt l' i).st = (payAt l i).st
 nodup : d.Nodup
 mem : ∀ i, i ∈ d ↔ i < l'.length ∧ (payAt l' i).st = 2 ∧ (l.length ≤ i ∨ (payAt l i).st ≠ 2)
theorem told_of {l k m : List Pay} {d : List Nat} (p : Pre l k) (e : Ext k m d) : Told l m d := by
 refine ⟨by rw [e.len]; exact p.len, fun i hi hs => ?_, e.nodup, fun i => ⟨fun hi => ?_, fun ⟨h1, h2, h3⟩ => ?_⟩⟩
 ·have h1 := p.stay i hi hs
  have h2 : i ∉ d := fun h => by have := e.was i h; omega
  rw [e.rest i h2, h1]
 ·refine ⟨by rw [e.len]; exact e.lt i hi, e.now i hi, ?_⟩
  by_cases h : l.length ≤ i
  ·exact .inl h
  ·right; intro h2
   have h3 := p.stay i (by omega) (by omega)
   have := e.was i hi; omega
 ·refine Classical.byContradiction fun hn => ?_
  rw [e.rest i hn] at h2
  obtain ⟨h4, h5⟩ := p.two i (by rw [← e.len]; exact h1) h2
  omega
theorem next_told (h : Hs) (l : List Pay) (a : Deed) : Told l (nextL h l a).l (nextL h l a).done := by
 have hc := next_case h l a
 revert hc
 generalize nextL h l a = x
 intro hc
 cases hc with
 | err c _ => exact told_of (Pre.refl l) (Ext.refl l)
 | pay hk h1 h2 h3 => exact told_of (Pre.app l _ rfl) (sweep_ext _ _)
 | gone hk h1 => exact told_of (Pre.set (waitsAt_true h1).2.1 _ (by simp [Pay.gone])) (sweep_ext _ _)
 | last hk h1 h2 h3 => exact told_of (Pre.set (waitsAt_true h1).2.1 _ (by have := (waitsAt_true h1).2.1; simp only [Pay.last]; omega)) (sweep_ext _ _)
 | credit hk h1 h2 => exact told_of (Pre.refl l) (sweep_ext _ _)
 | limit hk h1 h2 h3 h4 => exact told_of (Pre.refl l) (sweep_ext _ _)
 | fund hk h1 h2 h3 => exact told_of (Pre.refl l) (sweep_ext _ _)
 | spend hk h1 h2 h3 => exact told_of (Pre.refl l) (sweep_ext _ _)
 | untie hk => exact told_of (Pre.refl l) ((untie_ext h l).trans (sweep_ext _ _))
 | shut hk => exact told_of (Pre.shut l) (Ext.refl _)
theorem do_told (B : Bk) (a : Deed) (hk : a.kind ≠ 11) : Told B.l (doL B a).1.l (doL B a).2.done := by
 have hc := do_case B a
 revert hc
 generalize doL B a = x
 intro hc
 have hr : Told B.l B.l [] := told_of (Pre.refl _) (Ext.refl _)
 cases hc <;> first | exact hr | exact next_told _ _ _ | (exfalso; omega)
/-- How many are done newly. -/
theorem told_count {l l' : List Pay} {d : List Nat} (t : Told l l' d) : ((List.range l'.length).filter fun i => decide ((payAt l' i).st = 2 ∧ (l.length ≤ i ∨ (payAt l i).st ≠ 2))).length = d.length := by
 refine List.Perm.length_eq ((List.perm_ext_iff_of_nodup (List.nodup_range.filter _) t.nodup).2 fun i => ?_)
 rw [t.mem]
 simp

/-! ### bounds -/
/-- Nobody stands worse but by what others have set. -/
structure Better (h h' : Hs) : Prop where
 left : ∀ i, 0 ≤ i → i < 4 → h'.cr i = h.cr i → 0 ≤ h'.has i + h'.cr i ∨ h.has i + h.cr i ≤ h'.has i + h'.cr i
 net : ∀ i k, 0 ≤ i → i < 4 → 0 ≤ k → k < 4 → 0 ≤ h'.lim i k → h'.sent i k - h'.sent k i ≤ h'.lim i k ∨ h'.sent i k - h'.sent k i ≤ h.sent i k - h.sent k i
theorem Better.refl (h : Hs) : Better h h := ⟨fun _ _ _ _ => .inr (Int.le_refl _), fun _ _ _ _ _ _ _ => .inr (Int.le_refl _)⟩
theorem Better.trans {h k m : Hs} (b : Better h k) (c : Better k m) (ec : m.cr = k.cr) (el : m.lim = k.lim) : Better h m := by
 refine ⟨fun i h0 h1 e => ?_, fun i j i0 i1 j0 j1 hl => ?_⟩
 ·have h2 := c.left i h0 h1 (by rw [ec])
  have h3 := b.left i h0 h1 (by rw [← ec]; exact e)
  omega
 ·have h2 := c.net i j i0 i1 j0 j1 hl
  have h3 := b.net i j i0 i1 j0 j1 (by rw [← el]; exact hl)
  rw [el] at h2 ⊢
  omega
/-! ### sums -/
/-! ### an act that is refused -/
theorem do_refused (B : Bk) (a : Deed) (hc : (doL B a).2.code ≠ 0) : (doL B a).2.n = 0 ∧ (doL B a).2.done = [] ∧ (doL B a).1.h = B.h ∧ (doL B a).1.l = B.l ∧ ((doL B a).2.code = 7 ∨ ((doL B a).1.text = B.text ∧ (doL B a).1.down = B.down)) := by
 have h := do_case B a
 revert h hc
 generalize doL B a = x
 intro hc h
 cases h <;> first | exact ⟨rfl, rfl, rfl, rfl, .inr ⟨rfl, rfl⟩⟩ | exact ⟨rfl, rfl, rfl, rfl, .inl rfl⟩ | exact absurd rfl hc
/-- What belongs to the reply when the power is there, or not. -/
theorem do_up (B : Bk) (a : Deed) (h10 : a.kind ≠ 10) (h11 : a.kind ≠ 11) (h0 : B.acts < 200) : (doL B a).1.down = decide ((doL B a).2.code = 7) := by
 have hc := do_case B a
 revert hc
 generalize doL B a = x
 intro hc
 have hn := next_code B.h B.l a
 cases hc with
 | full h => omega
 | openUp h1 h2 h3 => omega
 | opened h1 h2 h3 => omega
 | down h1 h2 h3 => exact h3.trans rfl
 | failBad h1 h2 h3 h4 => omega
 | failSet h1 h2 h3 h4 => omega
 | refused h1 h2 h3 h4 h5 => exact h4.trans (decide_eq_false hn).symm
 | notNoted h1 h2 h3 h4 h5 h6 => exact h4.trans rfl
 | bookFull h1 h2 h3 h4 h5 h6 h7 => exact h4.trans rfl
 | lost h1 h2 h3 h4 h5 h6 h7 h8 => rfl
 | done h1 h2 h3 h4 h5 h6 h7 h8 => exact h4.trans rfl

/-! ### a close -/
theorem shut_code {h : Hs} {l : List Pay} (g : goodB h l = true) {a : Deed} (hk : a.kind = 9) : nextL h l a = ⟨h, l.map Pay.shut, 0, waiting l, []⟩ := by
 unfold nextL
 rw [if_neg (by rw [g]; simp)]
 simp [hk]
end Go.Proofs.Ytggfdkkhlokmlab


