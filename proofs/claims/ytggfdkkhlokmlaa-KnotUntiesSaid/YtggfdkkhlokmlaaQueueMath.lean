/- The queue of a bank, settling, sweeping: plain Lean. -/
import Derived.Test.YtggfdkkhlokmlaaLedgerSums
namespace Go.Proofs.Ytggfdkkhlokmlaa

def payAt (l : List Pay) (i : Nat) : Pay := l.getD i default
theorem payAt_some {l : List Pay} {i : Nat} {p : Pay} (h : l[i]? = some p) : payAt l i = p := by simp [payAt, List.getD, h]
theorem payAt_get {l : List Pay} {i : Nat} (h : i < l.length) : l[i]? = some (payAt l i) := by simp [payAt, List.getD, h]
theorem payAt_mem {l : List Pay} {i : Nat} (h : i < l.length) : payAt l i ∈ l := List.mem_of_getElem? (payAt_get h)
/-- Does payment i wait, and is it the bank's? -/
def waitsB (l : List Pay) (bank : Int) (i : Nat) : Bool := (payAt l i).st == 1 && (payAt l i).frm == bank
def waits (l : List Pay) (bank : Int) : List Nat := (List.range l.length).filter (waitsB l bank)
/-- By class, then by place. -/
def leP (p q : Pay) : Bool := decide (p.cls < q.cls) || (p.cls == q.cls && decide (p.seq ≤ q.seq))
def leB (l : List Pay) (i k : Nat) : Bool := leP (payAt l i) (payAt l k)
structure IsQueue (l : List Pay) (bank : Int) (xs : List Nat) : Prop where
  perm : xs.Perm (waits l bank)
  sorted : xs.Pairwise fun i k => leB l i k = true
noncomputable def ofL (l : List Pay) (bank : Int) : List Nat := (waits l bank).mergeSort (leB l)
theorem leP_trans (p q r : Pay) (h1 : leP p q = true) (h2 : leP q r = true) : leP p r = true := by
  simp only [leP, Bool.or_eq_true, Bool.and_eq_true, decide_eq_true_eq, beq_iff_eq] at *; omega
theorem leP_total (p q : Pay) : (leP p q || leP q p) = true := by
  simp only [leP, Bool.or_eq_true, Bool.and_eq_true, decide_eq_true_eq, beq_iff_eq]; omega
theorem ofL_is (l : List Pay) (bank : Int) : IsQueue l bank (ofL l bank) :=
  ⟨List.mergeSort_perm _ _, List.pairwise_mergeSort (le := leB l) (fun i j k h1 h2 => leP_trans (payAt l i) (payAt l j) (payAt l k) h1 h2) (fun i j => leP_total (payAt l i) (payAt l j)) _⟩
theorem waits_mem {l : List Pay} {bank : Int} {i : Nat} : i ∈ waits l bank ↔ i < l.length ∧ (payAt l i).st = 1 ∧ (payAt l i).frm = bank := by
  simp [waits, waitsB]
theorem IsQueue.mem {l : List Pay} {bank : Int} {xs : List Nat} (h : IsQueue l bank xs) {i : Nat} : i ∈ xs ↔ i < l.length ∧ (payAt l i).st = 1 ∧ (payAt l i).frm = bank := by
  rw [h.perm.mem_iff, waits_mem]
theorem waits_nodup (l : List Pay) (bank : Int) : (waits l bank).Nodup := List.nodup_range.filter _
theorem IsQueue.nodup {l : List Pay} {bank : Int} {xs : List Nat} (h : IsQueue l bank xs) : xs.Nodup := h.perm.nodup_iff.2 (waits_nodup l bank)
theorem waits_len (l : List Pay) (bank : Int) : (waits l bank).length ≤ l.length := by
  have := List.length_filter_le (waitsB l bank) (List.range l.length)
  simpa [waits] using this
theorem IsQueue.len {l : List Pay} {bank : Int} {xs : List Nat} (h : IsQueue l bank xs) : xs.length ≤ l.length := by
  rw [h.perm.length_eq]; exact waits_len l bank
theorem seq_inj {l : List Pay} (hn : (l.map (·.seq)).Nodup) {i k : Nat} (hi : i < l.length) (hk : k < l.length) (h : (payAt l i).seq = (payAt l k).seq) : i = k := by
  have h1 : (l.map (·.seq))[i]? = (l.map (·.seq))[k]? := by simp [payAt_get hi, payAt_get hk, h]
  exact (List.getElem?_inj (by simpa using hi) hn).1 h1
theorem IsQueue.unique {l : List Pay} {bank : Int} {xs ys : List Nat} (hn : (l.map (·.seq)).Nodup) (h : IsQueue l bank xs) (h' : IsQueue l bank ys) : xs = ys := by
  refine List.Perm.eq_of_pairwise ?_ h.sorted h'.sorted (h.perm.trans h'.perm.symm)
  intro i k hi hk h1 h2
  have hi := h.mem.1 hi
  have hk := h'.mem.1 hk
  refine seq_inj hn hi.1 hk.1 ?_
  simp only [leB, leP, Bool.or_eq_true, Bool.and_eq_true, decide_eq_true_eq, beq_iff_eq] at h1 h2; omega
theorem IsQueue.eq {l : List Pay} {bank : Int} {xs : List Nat} (hn : (l.map (·.seq)).Nodup) (h : IsQueue l bank xs) : xs = ofL l bank := h.unique hn (ofL_is l bank)
theorem ofL_mem {l : List Pay} {bank : Int} {i : Nat} : i ∈ ofL l bank ↔ i < l.length ∧ (payAt l i).st = 1 ∧ (payAt l i).frm = bank := (ofL_is l bank).mem
theorem ofL_len (l : List Pay) (bank : Int) : (ofL l bank).length ≤ l.length := (ofL_is l bank).len

/-! ### settling -/
def Pay.done (p : Pay) : Pay := { p with st := 2 }
def settled (l : List Pay) (i : Nat) : List Pay := l.set i (payAt l i).done
theorem settled_len (l : List Pay) (i : Nat) : (settled l i).length = l.length := by simp [settled]
theorem settled_same {l : List Pay} {i : Nat} (h : i < l.length) : payAt (settled l i) i = (payAt l i).done := by
  apply payAt_some; simp [settled, h]
theorem settled_ne {l : List Pay} {i k : Nat} (h : i ≠ k) : payAt (settled l i) k = payAt l k := by
  simp [payAt, settled, List.getD, List.getElem?_set_ne h]
theorem settled_key (l : List Pay) (i k : Nat) : (payAt (settled l i) k).frm = (payAt l k).frm ∧ (payAt (settled l i) k).to = (payAt l k).to ∧ (payAt (settled l i) k).amt = (payAt l k).amt ∧ (payAt (settled l i) k).cls = (payAt l k).cls ∧ (payAt (settled l i) k).seq = (payAt l k).seq := by
  by_cases h : i = k
  · subst h
    by_cases hl : i < l.length
    · rw [settled_same hl]; simp [Pay.done]
    · have : settled l i = l := by simp [settled, List.set_eq_of_length_le (by omega : l.length ≤ i)]
      rw [this]; simp
  · rw [settled_ne h]; simp
theorem settled_seqs (l : List Pay) (i : Nat) : (settled l i).map (·.seq) = l.map (·.seq) := by
  apply List.ext_getElem?
  intro k
  by_cases hk : k < l.length
  · rw [List.getElem?_map, List.getElem?_map, payAt_get hk, payAt_get (by rw [settled_len]; exact hk)]
    simp [(settled_key l i k).2.2.2.2]
  · rw [List.getElem?_eq_none (by simp [settled_len]; omega), List.getElem?_eq_none (by simp; omega)]
theorem settled_leB (l : List Pay) (i j k : Nat) : leB (settled l i) j k = leB l j k := by
  obtain ⟨_, _, _, h1, h2⟩ := settled_key l i j
  obtain ⟨_, _, _, h3, h4⟩ := settled_key l i k
  simp [leB, leP, h1, h2, h3, h4]
theorem settled_waitsB {l : List Pay} {i : Nat} (h : i < l.length) (b : Int) (k : Nat) : waitsB (settled l i) b k = (waitsB l b k && k != i) := by
  by_cases hk : i = k
  · subst hk
    simp [waitsB, settled_same h, Pay.done]
  · have : (k != i) = true := by simp; omega
    simp [waitsB, settled_ne hk, this]
theorem settled_waits {l : List Pay} {i : Nat} (h : i < l.length) (b : Int) : waits (settled l i) b = (waits l b).filter (· != i) := by
  simp only [waits, settled_len, List.filter_filter]
  apply List.filter_congr
  intro k _
  rw [settled_waitsB h, Bool.and_comm]
theorem ofL_settled {l : List Pay} {b : Int} {i : Nat} {xs : List Nat} (hn : (l.map (·.seq)).Nodup) (h : ofL l b = i :: xs) : ofL (settled l i) b = xs := by
  have hq := ofL_is l b
  rw [h] at hq
  have hi := (hq.mem (i := i)).1 (by simp)
  symm
  refine IsQueue.eq (by rw [settled_seqs]; exact hn) ⟨?_, ?_⟩
  · rw [settled_waits hi.1, ← List.Nodup.erase_eq_filter (waits_nodup l b)]
    have := hq.perm.erase i
    simpa using this
  · have := hq.sorted
    simp only [List.pairwise_cons] at this
    exact this.2.imp fun {j k} hjk => by rw [settled_leB]; exact hjk
theorem ofL_settled_ne {l : List Pay} {b : Int} {i : Nat} (hn : (l.map (·.seq)).Nodup) (hi : i < l.length) (hb : (payAt l i).frm ≠ b) : ofL (settled l i) b = ofL l b := by
  symm
  have hq := ofL_is l b
  refine IsQueue.eq (by rw [settled_seqs]; exact hn) ⟨?_, ?_⟩
  · rw [settled_waits hi]
    have : (waits l b).filter (· != i) = waits l b := List.filter_eq_self.2 fun k hk => by
      have := waits_mem.1 hk
      simp only [bne_iff_ne, ne_eq]
      rintro rfl
      exact hb this.2.2
    rw [this]
    exact hq.perm
  · exact hq.sorted.imp fun {j k} hjk => by rw [settled_leB]; exact hjk

/-! ### sweeping -/
/-- A house on its way, and what was done. -/
structure St where
  h : Hs
  l : List Pay
  d : List Nat
def St.settle (S : St) (i : Nat) : St := ⟨S.h.move (payAt S.l i).frm (payAt S.l i).to (payAt S.l i).amt, settled S.l i, S.d ++ [i]⟩
def St.may (S : St) (i : Nat) : Bool := mayB S.h (payAt S.l i).frm (payAt S.l i).to (payAt S.l i).amt
noncomputable def visitN : Nat → Int → St → St
  | 0, _, S => S
  | n + 1, b, S => match ofL S.l b with
    | [] => S
    | i :: _ => if S.may i then visitN n b (S.settle i) else S
/-- A bank does of its first payments as many as it may. -/
noncomputable def visit (b : Int) (S : St) : St := visitN (ofL S.l b).length b S
theorem visit_nil {b : Int} {S : St} (h : ofL S.l b = []) : visit b S = S := by simp [visit, h, visitN]
theorem visit_no {b : Int} {S : St} {i : Nat} {xs : List Nat} (h : ofL S.l b = i :: xs) (hm : S.may i = false) : visit b S = S := by simp [visit, h, visitN, hm]
theorem visit_yes {b : Int} {S : St} {i : Nat} {xs : List Nat} (hn : (S.l.map (·.seq)).Nodup) (h : ofL S.l b = i :: xs) (hm : S.may i = true) : visit b S = visit b (S.settle i) := by
  have h2 : ofL (S.settle i).l b = xs := ofL_settled hn h
  simp [visit, h, visitN, hm, h2]
/-- Bank b may not do the first of its payments. -/
def Idle (b : Int) (S : St) : Prop := ∀ i xs, ofL S.l b = i :: xs → S.may i = false
theorem idle_visit {b : Int} {S : St} (h : Idle b S) : visit b S = S := by
  cases hq : ofL S.l b with
  | nil => exact visit_nil hq
  | cons i xs => exact visit_no hq (h i xs hq)
/-- The sweep's induction: what holds at the start and is kept by each settling holds behind a visit. -/
theorem visit_ind (P : St → Prop) (hn : ∀ S, P S → (S.l.map (·.seq)).Nodup) (b : Int) (hs : ∀ S i xs, P S → ofL S.l b = i :: xs → S.may i = true → P (S.settle i)) : ∀ (n : Nat) (S : St), (ofL S.l b).length = n → P S → P (visit b S) ∧ Idle b (visit b S)
  | 0, S, hl, hS => by
    have := List.length_eq_zero_iff.1 hl
    rw [visit_nil this]
    exact ⟨hS, fun i xs h => by rw [this] at h; cases h⟩
  | n + 1, S, hl, hS => by
    cases hq : ofL S.l b with
    | nil => rw [hq] at hl; cases hl
    | cons i xs =>
      cases hm : S.may i with
      | false =>
        rw [visit_no hq hm]
        exact ⟨hS, fun j ys h => by rw [hq] at h; cases h; exact hm⟩
      | true =>
        rw [visit_yes (hn S hS) hq hm]
        have h2 : ofL (S.settle i).l b = xs := ofL_settled (hn S hS) hq
        exact visit_ind P hn b hs n (S.settle i) (by rw [h2]; rw [hq] at hl; simpa using hl) (hs S i xs hS hq hm)
theorem settle_seqs (S : St) (i : Nat) : (S.settle i).l.map (·.seq) = S.l.map (·.seq) := settled_seqs S.l i
theorem visit_seqs (b : Int) (S : St) (hn : (S.l.map (·.seq)).Nodup) : (visit b S).l.map (·.seq) = S.l.map (·.seq) :=
  (visit_ind (fun T => T.l.map (·.seq) = S.l.map (·.seq)) (fun T hT => by rw [hT]; exact hn) b (fun T i xs hT _ _ => by rw [settle_seqs]; exact hT) _ S rfl rfl).1
theorem visit_idle (b : Int) (S : St) (hn : (S.l.map (·.seq)).Nodup) : Idle b (visit b S) :=
  (visit_ind (fun T => (T.l.map (·.seq)).Nodup) (fun T hT => hT) b (fun T i xs hT _ _ => by rw [settle_seqs]; exact hT) _ S rfl hn).2
/-- The first k visits, from bank 0 on, round and round. -/
noncomputable def visits : Nat → St → St
  | 0, S => S
  | k + 1, S => visit ((k % 4 : Nat) : Int) (visits k S)
def Rests (S : St) : Prop := ∀ b : Nat, b < 4 → Idle (b : Int) S
theorem visits_rest {S : St} {k : Nat} (h : Rests (visits k S)) : ∀ m, visits (k + m) S = visits k S
  | 0 => rfl
  | m + 1 => by
    have ih := visits_rest h m
    show visit _ (visits (k + m) S) = _
    rw [ih]
    exact idle_visit (h _ (Nat.mod_lt _ (by omega)))
theorem visits_unique {S : St} {k m : Nat} (h : Rests (visits k S)) (h' : Rests (visits m S)) : visits k S = visits m S := by
  rcases Nat.le_total k m with hkm | hkm
  · have := visits_rest h (m - k)
    rw [show k + (m - k) = m from by omega] at this
    exact this.symm
  · have := visits_rest h' (k - m)
    rw [show m + (k - m) = k from by omega] at this
    exact this
theorem visits_ind (P : St → Prop) (hn : ∀ S, P S → (S.l.map (·.seq)).Nodup) (hs : ∀ (b : Nat) S i xs, b < 4 → P S → ofL S.l (b : Int) = i :: xs → S.may i = true → P (S.settle i)) (S : St) (hS : P S) : ∀ k, P (visits k S)
  | 0 => hS
  | k + 1 => (visit_ind P hn _ (fun T i xs hT h hm => hs (k % 4) T i xs (Nat.mod_lt _ (by omega)) hT h hm) _ _ rfl (visits_ind P hn hs S hS k)).1
theorem visits_seqs (S : St) (hn : (S.l.map (·.seq)).Nodup) (k : Nat) : (visits k S).l.map (·.seq) = S.l.map (·.seq) :=
  visits_ind (fun T => T.l.map (·.seq) = S.l.map (·.seq)) (fun T hT => by rw [hT]; exact hn) (fun b T i xs _ hT _ _ => by rw [settle_seqs]; exact hT) S rfl k

/-! ### the end -/
/-- How many payments wait. -/
def waiting (l : List Pay) : Nat := l.countP (·.st == 1)
theorem waiting_settled {l : List Pay} {i : Nat} (h : i < l.length) (h1 : (payAt l i).st = 1) : waiting l = waiting (settled l i) + 1 := by
  have hg : l[i] = payAt l i := by
    have := payAt_get h
    rw [List.getElem?_eq_getElem h] at this
    exact Option.some.inj this
  have := List.countP_set (p := fun p : Pay => p.st == 1) (l := l) (i := i) (a := (payAt l i).done) h
  have hpos : 0 < l.countP (·.st == 1) := List.countP_pos_iff.2 ⟨payAt l i, payAt_mem h, by simp [h1]⟩
  simp only [waiting, settled]
  rw [this, hg]
  simp [Pay.done, h1]
  omega
theorem waiting_le (l : List Pay) : waiting l ≤ l.length := List.countP_le_length
/-- A visit settles some, or the bank is idle. -/
theorem visit_waiting (b : Int) (S : St) (hn : (S.l.map (·.seq)).Nodup) : waiting (visit b S).l ≤ waiting S.l ∧ (waiting (visit b S).l = waiting S.l → Idle b S ∧ visit b S = S) := by
  cases hq : ofL S.l b with
  | nil => rw [visit_nil hq]; exact ⟨Nat.le_refl _, fun _ => ⟨(fun i xs h => by rw [hq] at h; cases h), rfl⟩⟩
  | cons i xs =>
    cases hm : S.may i with
    | false => rw [visit_no hq hm]; exact ⟨Nat.le_refl _, fun _ => ⟨(fun j ys h => by rw [hq] at h; cases h; exact hm), rfl⟩⟩
    | true =>
      rw [visit_yes hn hq hm]
      have hi := (ofL_mem (l := S.l) (bank := b) (i := i)).1 (by rw [hq]; simp)
      have h1 : waiting S.l = waiting (S.settle i).l + 1 := waiting_settled hi.1 hi.2.1
      have h2 := (visit_ind (fun T => waiting T.l ≤ waiting (S.settle i).l ∧ (T.l.map (·.seq)).Nodup) (fun T hT => hT.2) b (fun T j ys hT hj _ => by
        have hj := (ofL_mem (l := T.l) (bank := b) (i := j)).1 (by rw [hj]; simp)
        have h3 : waiting T.l = waiting (T.settle j).l + 1 := waiting_settled hj.1 hj.2.1
        exact ⟨by have := hT.1; omega, by rw [settle_seqs]; exact hT.2⟩) _ (S.settle i) rfl ⟨Nat.le_refl _, by rw [settle_seqs]; exact hn⟩).1
      exact ⟨by omega, fun h => by omega⟩
theorem round_waiting (S : St) (hn : (S.l.map (·.seq)).Nodup) (k : Nat) : ∀ m, waiting (visits (k + m) S).l ≤ waiting (visits k S).l ∧ (waiting (visits (k + m) S).l = waiting (visits k S).l → visits (k + m) S = visits k S ∧ ∀ j, j < m → Idle (((k + j) % 4 : Nat) : Int) (visits k S))
  | 0 => ⟨Nat.le_refl _, fun _ => ⟨rfl, fun j hj => by omega⟩⟩
  | m + 1 => by
    obtain ⟨h1, h2⟩ := round_waiting S hn k m
    obtain ⟨h3, h4⟩ := visit_waiting (((k + m) % 4 : Nat) : Int) (visits (k + m) S) (by rw [visits_seqs S hn]; exact hn)
    have e : visits (k + (m + 1)) S = visit (((k + m) % 4 : Nat) : Int) (visits (k + m) S) := rfl
    rw [e]
    refine ⟨by omega, fun h => ?_⟩
    obtain ⟨h5, h6⟩ := h2 (by omega)
    obtain ⟨h7, h8⟩ := h4 (by omega)
    refine ⟨by rw [h8, h5], fun j hj => ?_⟩
    by_cases e : j = m
    · subst e; rw [h5] at h7; exact h7
    · exact h6 j (by omega)
theorem rests_of_round (S : St) (hn : (S.l.map (·.seq)).Nodup) (k : Nat) (h : waiting (visits (k + 4) S).l = waiting (visits k S).l) : Rests (visits k S) := by
  obtain ⟨_, h2⟩ := round_waiting S hn k 4
  obtain ⟨_, h6⟩ := h2 h
  intro b hb
  have := h6 ((b + 4 - k % 4) % 4) (Nat.mod_lt _ (by omega))
  rw [show (k + (b + 4 - k % 4) % 4) % 4 = b from by omega] at this
  exact this
noncomputable def sweepS (S : St) : St := visits (4 * S.l.length) S
theorem sweep_rests (S : St) (hn : (S.l.map (·.seq)).Nodup) : Rests (sweepS S) := by
  have key : ∀ r, waiting (visits (4 * r) S).l + r ≤ S.l.length ∨ Rests (visits (4 * r) S) := by
    intro r
    induction r with
    | zero => exact .inl (by simpa [visits] using waiting_le S.l)
    | succ r ih =>
      rcases ih with ih | ih
      · obtain ⟨h1, _⟩ := round_waiting S hn (4 * r) 4
        rw [show 4 * (r + 1) = 4 * r + 4 from by omega]
        by_cases e : waiting (visits (4 * r + 4) S).l = waiting (visits (4 * r) S).l
        · have := rests_of_round S hn (4 * r) e
          rw [visits_rest this 4]
          exact .inr this
        · exact .inl (by omega)
      · rw [show 4 * (r + 1) = 4 * r + 4 from by omega, visits_rest ih 4]
        exact .inr ih
  rcases key S.l.length with h | h
  · have hw : waiting (visits (4 * S.l.length) S).l = 0 := by omega
    obtain ⟨h1, _⟩ := round_waiting S hn (4 * S.l.length) 4
    exact rests_of_round S hn _ (by omega)
  · exact h
theorem sweep_of_rests {S : St} (hn : (S.l.map (·.seq)).Nodup) {k : Nat} (h : Rests (visits k S)) : visits k S = sweepS S := visits_unique h (sweep_rests S hn)
end Go.Proofs.Ytggfdkkhlokmlaa
