/- What an act makes of a house; what holds of every house that acts have made; plain Lean. -/
import Derived.Test.YtggfdkkhlokmlaaInvMath
import Derived.Test.YtggfdkkhlokmlaaBookMath
namespace Go.Proofs.Ytggfdkkhlokmlaa

noncomputable def sweepG (h : Hs) (l : List Pay) : St := if goodB h l then sweepS ⟨h, l, []⟩ else ⟨h, l, []⟩
noncomputable def untieS (h : Hs) (l : List Pay) : St := if goodB h l then settleAll (firsts l (mostOf h l) 4) ⟨h, l, []⟩ else ⟨h, l, []⟩
/-- A house behind an act, and the answer. -/
structure Nx where
  h : Hs
  l : List Pay
  code : Int
  n : Int
  done : List Nat
def Nx.err (h : Hs) (l : List Pay) (c : Int) : Nx := ⟨h, l, c, 0, []⟩
noncomputable def Nx.swept (h : Hs) (l : List Pay) (n : Int) (pre : List Nat) : Nx := ⟨(sweepG h l).h, (sweepG h l).l, 0, n, pre ++ (sweepG h l).d⟩
/-- Does payment n wait? -/
def waitsAt (l : List Pay) (n : Int) : Bool := decide (0 ≤ n ∧ n < l.length ∧ (payAt l n.toNat).st = 1)
def Hs.setNext (h : Hs) (v : Int) : Hs := { h with next := v }
def Hs.setCr (h : Hs) (i v : Int) : Hs := { h with cr := fun j => if j = i then v else h.cr j }
def Pay.gone (p : Pay) : Pay := { p with st := 3 }
def Pay.last (p : Pay) (c s : Int) : Pay := { p with cls := c, seq := s }
def Pay.shut (p : Pay) : Pay := if p.st = 1 then p.gone else p
def payOf (h : Hs) (a : Deed) : Pay := ⟨a.a, a.b, a.n, a.c, 1, h.next⟩
/-- P5.1 to P5.4. -/
noncomputable def nextL (h : Hs) (l : List Pay) (a : Deed) : Nx :=
  if goodB h l = false then .err h l 1
  else if a.kind = 1 then
    if goodPay (payOf h a) = false then .err h l 3
    else if 24 ≤ l.length ∨ 1048576 ≤ h.next then .err h l 5
    else .swept (h.setNext (h.next + 1)) (l ++ [payOf h a]) l.length []
  else if a.kind = 2 then
    if waitsAt l a.a = false then .err h l 4
    else .swept h (l.set a.a.toNat (payAt l a.a.toNat).gone) 0 []
  else if a.kind = 3 then
    if waitsAt l a.a = false then .err h l 4
    else if sm 0 a.c 2 = false then .err h l 3
    else if 1048576 ≤ h.next then .err h l 5
    else .swept (h.setNext (h.next + 1)) (l.set a.a.toNat ((payAt l a.a.toNat).last a.c h.next)) 0 []
  else if a.kind = 4 then
    if sm 0 a.a 3 = false ∨ sm 0 a.n 1000000 = false then .err h l 3
    else .swept (h.setCr a.a a.n) l 0 []
  else if a.kind = 5 then
    if sm 0 a.a 3 = false ∨ sm 0 a.b 3 = false ∨ a.a = a.b ∨ sm (-1) a.n 1000000 = false then .err h l 3
    else .swept (h.setLim a.a a.b a.n) l 0 []
  else if a.kind = 6 then
    if sm 0 a.a 3 = false ∨ sm 1 a.n 1000000 = false then .err h l 3
    else if 549755813888 ≤ h.has a.a then .err h l 5
    else .swept (h.setHas a.a (h.has a.a + a.n)) l 0 []
  else if a.kind = 7 then
    if sm 0 a.a 3 = false ∨ sm 1 a.n 1000000 = false then .err h l 3
    else if h.has a.a + h.cr a.a < a.n then .err h l 6
    else .swept (h.setHas a.a (h.has a.a - a.n)) l 0 []
  else if a.kind = 8 then .swept (untieS h l).h (untieS h l).l (untieS h l).d.length (untieS h l).d
  else if a.kind = 9 then ⟨h, l.map Pay.shut, 0, waiting l, []⟩
  else .err h l 2

/-! ### sums over payments that were done -/
def dsum (f : Pay → Bool) (l : List Pay) : Int := (l.map fun p => if p.st = 2 ∧ f p = true then p.amt else 0).sum
theorem sum_set (g : Pay → Int) : ∀ (l : List Pay) (i : Nat) (q : Pay), i < l.length → ((l.set i q).map g).sum = (l.map g).sum - g (payAt l i) + g q
  | [], i, q, h => by simp at h
  | p :: l, 0, q, h => by simp [payAt]; omega
  | p :: l, i + 1, q, h => by
    have ih := sum_set g l i q (by simpa using h)
    have e : payAt (p :: l) (i + 1) = payAt l i := by simp [payAt]
    simp only [List.set_cons_succ, List.map_cons, List.sum_cons, ih, e]
    omega
theorem dsum_set (f : Pay → Bool) {l : List Pay} {i : Nat} (q : Pay) (h : i < l.length) : dsum f (l.set i q) = dsum f l - (if (payAt l i).st = 2 ∧ f (payAt l i) = true then (payAt l i).amt else 0) + (if q.st = 2 ∧ f q = true then q.amt else 0) :=
  sum_set (fun p => if p.st = 2 ∧ f p = true then p.amt else 0) l i q h
theorem dsum_app (f : Pay → Bool) (l k : List Pay) : dsum f (l ++ k) = dsum f l + dsum f k := by simp [dsum]
theorem dsum_bound (f : Pay → Bool) : ∀ l : List Pay, (∀ p ∈ l, goodPay p = true) → 0 ≤ dsum f l ∧ dsum f l ≤ 1000000 * l.length
  | [], _ => by simp [dsum]
  | p :: l, h => by
    have ih := dsum_bound f l fun q hq => h q (by simp [hq])
    have hp := goodPay_sends (h p (by simp))
    have h0 := hp.a0; have h1 := hp.a1
    simp only [dsum, List.map_cons, List.sum_cons, List.length_cons] at ih ⊢
    split <;> omega
theorem dsum_zero (f : Pay → Bool) (l : List Pay) (h : ∀ p ∈ l, f p = false) : dsum f l = 0 :=
  sum_zero _ l fun p hp => by rw [if_neg (by rw [h p hp]; simp)]
def toB (t : Int) (p : Pay) : Bool := p.to == t
def ftB (b t : Int) (p : Pay) : Bool := p.frm == b && p.to == t

/-! ### what holds of a house at work -/
structure Inv (h : Hs) (l : List Pay) : Prop where
  len : l.length ≤ 24
  next : 0 ≤ h.next ∧ h.next ≤ 1048576
  hi : ∀ i, 0 ≤ i → i < 4 → h.has i ≤ 549756813888 + dsum (toB i) l
  cr : ∀ i, 0 ≤ i → i < 4 → 0 ≤ h.cr i ∧ h.cr i ≤ 1000000
  lim : ∀ i k, 0 ≤ i → i < 4 → 0 ≤ k → k < 4 → -1 ≤ h.lim i k ∧ h.lim i k ≤ 1000000
  sent : ∀ i k, 0 ≤ i → i < 4 → 0 ≤ k → k < 4 → h.sent i k = dsum (ftB i k) l
  pays : ∀ p ∈ l, goodPay p = true ∧ p.seq < h.next
  nodup : (l.map (·.seq)).Nodup
def Low (h : Hs) : Prop := ∀ i, 0 ≤ i → i < 4 → -1000000 ≤ h.has i
theorem Inv.good {h : Hs} {l : List Pay} (v : Inv h l) (lo : Low h) : GoodP h l where
  len := v.len
  next := sm_yes v.next
  banks := fun i h0 h1 => by
    have hg : ∀ p ∈ l, goodPay p = true := fun p hp => (v.pays p hp).1
    have hl := v.len
    refine ⟨sm_yes ?_, sm_yes (v.cr i h0 h1), fun k k0 k1 => ⟨sm_yes ?_, sm_yes (v.lim i k h0 h1 k0 k1), fun e => ?_⟩⟩
    · have := v.hi i h0 h1; have := lo i h0 h1; have := dsum_bound (toB i) l hg; omega
    · rw [v.sent i k h0 h1 k0 k1]; have := dsum_bound (ftB i k) l hg; omega
    · subst e
      rw [v.sent i i h0 h1 h0 h1]
      refine dsum_zero _ _ fun p hp => ?_
      have := (goodPay_sends (hg p hp)).ne
      simp only [ftB, Bool.and_eq_false_iff, beq_eq_false_iff_ne]
      by_cases e : p.frm = i
      · exact .inr fun e' => this (by rw [e, e'])
      · exact .inl e
  pays := v.pays
  nodup := v.nodup
theorem Inv.goodB {h : Hs} {l : List Pay} (v : Inv h l) (lo : Low h) : goodB h l = true := goodB_yes (v.good lo)
theorem done_good {p : Pay} (h : goodPay p = true) : goodPay p.done = true := by
  obtain ⟨h1, h2, h3, h4, h5, h6⟩ := goodPay_iff.1 h
  exact goodPay_iff.2 ⟨h1, h2, h3, by simp [Pay.done], by simp [Pay.done], h6⟩
theorem set_pays {l : List Pay} {i : Nat} {q : Pay} {P : Pay → Prop} (h : ∀ p ∈ l, P p) (hq : P q) : ∀ p ∈ l.set i q, P p := fun p hp => by
  rcases List.mem_or_eq_of_mem_set hp with h' | rfl
  · exact h p h'
  · exact hq
theorem settle_next (S : St) (i : Nat) : (S.settle i).h.next = S.h.next := move_next _ _ _ _
theorem settle_cr (S : St) (i : Nat) : (S.settle i).h.cr = S.h.cr := move_cr _ _ _ _
theorem settle_lim (S : St) (i : Nat) : (S.settle i).h.lim = S.h.lim := move_lim _ _ _ _
theorem settle_has {S : St} {i : Nat} (hs : Sends (payAt S.l i).frm (payAt S.l i).to (payAt S.l i).amt) (t : Int) : (S.settle i).h.has t = if t = (payAt S.l i).to then S.h.has (payAt S.l i).to + (payAt S.l i).amt else if t = (payAt S.l i).frm then S.h.has (payAt S.l i).frm - (payAt S.l i).amt else S.h.has t := move_has hs t
theorem settle_sent {S : St} {i : Nat} (hs : Sends (payAt S.l i).frm (payAt S.l i).to (payAt S.l i).amt) (b t : Int) : (S.settle i).h.sent b t = if b = (payAt S.l i).frm ∧ t = (payAt S.l i).to then S.h.sent (payAt S.l i).frm (payAt S.l i).to + (payAt S.l i).amt else S.h.sent b t := move_sent hs b t
theorem Inv.settle {S : St} {i : Nat} (v : Inv S.h S.l) (hi : i < S.l.length) (h1 : (payAt S.l i).st = 1) : Inv (S.settle i).h (S.settle i).l := by
  have hp := v.pays _ (payAt_mem hi)
  have hs := goodPay_sends hp.1
  have a0 := hs.a0
  have hdone : ∀ f : Pay → Bool, f (payAt S.l i).done = f (payAt S.l i) → dsum f (S.settle i).l = dsum f S.l + if f (payAt S.l i) = true then (payAt S.l i).amt else 0 := fun f hf => by
    show dsum f (settled S.l i) = _
    rw [settled, dsum_set f _ hi, h1, hf]
    simp [Pay.done]
  refine ⟨by show (settled S.l i).length ≤ 24; rw [settled_len]; exact v.len, ?_, fun t t0 t1 => ?_, ?_, ?_, fun b t b0 b1 t0 t1 => ?_, ?_, by rw [settle_seqs]; exact v.nodup⟩
  · rw [settle_next]; exact v.next
  · rw [hdone (toB t) rfl]
    rw [settle_has hs]
    have b1 := v.hi t t0 t1
    have b2 := v.hi _ hs.t0 hs.t1
    by_cases e : t = (payAt S.l i).to
    · rw [if_pos e, if_pos (by simp [toB, e])]
      rw [e]; omega
    · rw [if_neg e, if_neg (c := toB t (payAt S.l i) = true) (by simp only [toB, beq_iff_eq]; exact fun e' => e e'.symm)]
      split
      · rename_i e'; rw [← e']; omega
      · omega
  · intro t t0 t1
    rw [settle_cr]; exact v.cr t t0 t1
  · intro b t b0 b1 t0 t1
    rw [settle_lim]; exact v.lim b t b0 b1 t0 t1
  · rw [hdone (ftB b t) rfl]
    rw [settle_sent hs]
    by_cases e : b = (payAt S.l i).frm ∧ t = (payAt S.l i).to
    · obtain ⟨e1, e2⟩ := e
      rw [if_pos ⟨e1, e2⟩, if_pos (by simp [ftB, e1, e2]), e1, e2, v.sent _ _ hs.f0 hs.f1 hs.t0 hs.t1]
    · rw [if_neg e, if_neg (by simp only [ftB, Bool.and_eq_true, beq_iff_eq]; exact fun e' => e ⟨e'.1.symm, e'.2.symm⟩), v.sent b t b0 b1 t0 t1]
      omega
  · rw [settle_next]
    show ∀ p ∈ settled S.l i, goodPay p = true ∧ p.seq < S.h.next
    exact set_pays v.pays ⟨done_good hp.1, hp.2⟩
theorem Low.settle {S : St} {i : Nat} (v : Inv S.h S.l) (lo : Low S.h) (_hi : i < S.l.length) (hm : S.may i = true) : Low (S.settle i).h := by
  obtain ⟨hs, hl, _⟩ := mayB_true hm
  have a0 := hs.a0
  intro t t0 t1
  rw [settle_has hs]
  have b1 := lo t t0 t1
  have b2 := lo _ hs.t0 hs.t1
  have b3 := v.cr _ hs.f0 hs.f1
  split
  · omega
  · split <;> omega
theorem Inv.sweep {h : Hs} {l : List Pay} (v : Inv h l) (lo : Low h) : Inv (sweepG h l).h (sweepG h l).l ∧ Low (sweepG h l).h := by
  rw [sweepG, if_pos (v.goodB lo)]
  refine visits_ind (fun S => Inv S.h S.l ∧ Low S.h) (fun S hS => hS.1.nodup) (fun b S i xs _ hS hq hm => ?_) ⟨h, l, []⟩ ⟨v, lo⟩ _
  have hi := (ofL_mem (l := S.l) (bank := b) (i := i)).1 (by rw [hq]; simp)
  exact ⟨hS.1.settle hi.1 hi.2.1, Low.settle hS.1 hS.2 hi.1 hm⟩
theorem sweep_restsG {h : Hs} {l : List Pay} (g : goodB h l = true) : Rests (sweepG h l) := by
  rw [sweepG, if_pos g]
  exact sweep_rests _ (goodB_true g).nodup

/-! ### untying -/
theorem moves_congr {l k : List Pay} (h : ∀ i, (payAt l i).frm = (payAt k i).frm ∧ (payAt l i).to = (payAt k i).to ∧ (payAt l i).amt = (payAt k i).amt) : ∀ (xs : List Nat) (x : Hs), moves l xs x = moves k xs x
  | [], _ => rfl
  | i :: xs, x => by
    obtain ⟨h1, h2, h3⟩ := h i
    simp only [moves, h1, h2, h3]
    exact moves_congr h xs _
theorem settled_keys (l : List Pay) (j : Nat) : ∀ i, (payAt (settled l j) i).frm = (payAt l i).frm ∧ (payAt (settled l j) i).to = (payAt l i).to ∧ (payAt (settled l j) i).amt = (payAt l i).amt := fun i =>
  let ⟨h1, h2, h3, _⟩ := settled_key l j i; ⟨h1, h2, h3⟩
theorem settleAll_h : ∀ (xs : List Nat) (S : St), (settleAll xs S).h = moves S.l xs S.h ∧ (settleAll xs S).d = S.d ++ xs
  | [], S => ⟨rfl, by simp [settleAll]⟩
  | i :: xs, S => by
    obtain ⟨h1, h2⟩ := settleAll_h xs (S.settle i)
    refine ⟨?_, ?_⟩
    · show (settleAll xs (S.settle i)).h = _
      rw [h1]
      exact moves_congr (settled_keys S.l i) xs _
    · show (settleAll xs (S.settle i)).d = _
      rw [h2]
      simp [St.settle]
theorem settleAll_ind (P : St → Prop) : ∀ (xs : List Nat) (S : St), xs.Nodup → (∀ i ∈ xs, i < S.l.length ∧ (payAt S.l i).st = 1) → (∀ S i, P S → i < S.l.length → (payAt S.l i).st = 1 → P (S.settle i)) → P S → P (settleAll xs S)
  | [], S, _, _, _, h => h
  | i :: xs, S, hn, hw, hs, h => by
    have hn' := List.nodup_cons.1 hn
    refine settleAll_ind P xs (S.settle i) hn'.2 (fun j hj => ?_) hs (hs S i h (hw i (by simp)).1 (hw i (by simp)).2)
    have hj' := hw j (by simp [hj])
    have hne : i ≠ j := fun e => hn'.1 (e ▸ hj)
    show j < (settled S.l i).length ∧ (payAt (settled S.l i) j).st = 1
    rw [settled_len, settled_ne hne]
    exact hj'
theorem firsts_mem {l : List Pay} {n : Int → Nat} {i : Nat} : ∀ k, i ∈ firsts l n k → ∃ b : Nat, b < k ∧ i ∈ ofL l (b : Int)
  | 0, h => by simp [firsts] at h
  | k + 1, h => by
    rcases List.mem_append.1 h with h | h
    · obtain ⟨b, hb, hi⟩ := firsts_mem k h
      exact ⟨b, by omega, hi⟩
    · exact ⟨k, by omega, List.mem_of_mem_take h⟩
theorem firsts_wait {l : List Pay} {n : Int → Nat} {k i : Nat} (h : i ∈ firsts l n k) : i < l.length ∧ (payAt l i).st = 1 := by
  obtain ⟨b, _, hi⟩ := firsts_mem k h
  have := ofL_mem.1 hi
  exact ⟨this.1, this.2.1⟩
theorem firsts_nodup (l : List Pay) (n : Int → Nat) : ∀ k, (firsts l n k).Nodup
  | 0 => by simp [firsts]
  | k + 1 => by
    simp only [firsts]
    rw [List.nodup_append]
    refine ⟨firsts_nodup l n k, ((ofL_is l k).nodup.sublist (List.take_sublist _ _)), ?_⟩
    intro i hi j hj e
    subst e
    obtain ⟨b, hb, hi⟩ := firsts_mem k hi
    have h1 := (ofL_mem.1 hi).2.2
    have h2 := (ofL_mem.1 (List.mem_of_mem_take hj)).2.2
    omega
theorem Inv.untie {h : Hs} {l : List Pay} (v : Inv h l) (lo : Low h) : Inv (untieS h l).h (untieS h l).l ∧ Low (untieS h l).h := by
  have g := v.good lo
  rw [untieS, if_pos (v.goodB lo)]
  refine ⟨settleAll_ind (fun S => Inv S.h S.l) _ _ (firsts_nodup l _ 4) (fun i hi => firsts_wait hi) (fun S i hS hi h1 => hS.settle hi h1) v, ?_⟩
  have hm := mostOf_is h g.allPay
  rw [(settleAll_h _ _).1]
  show Low (after l (mostOf h l) h)
  intro b b0 b1
  rcases hm.tog.fine b b0 b1 with h0 | h0
  · rw [after_has g.allPay _ _ ⟨b0, b1⟩, h0]
    have e : outs l b ((ofL l b).take 0) = 0 := by simp [outs]
    have i0 := ins_pos b (snd_take g.allPay 0 (mostOf h l 0))
    have i1 := ins_pos b (snd_take g.allPay 1 (mostOf h l 1))
    have i2 := ins_pos b (snd_take g.allPay 2 (mostOf h l 2))
    have i3 := ins_pos b (snd_take g.allPay 3 (mostOf h l 3))
    have := lo b b0 b1
    omega
  · have := h0.left
    rw [after_cr] at this
    have := v.cr b b0 b1
    omega

/-! ### an act -/
theorem dsum_same (f : Pay → Bool) {l : List Pay} {i : Nat} {q : Pay} (h : i < l.length) (h1 : (payAt l i).st ≠ 2) (h2 : q.st ≠ 2) : dsum f (l.set i q) = dsum f l := by
  rw [dsum_set f _ h, if_neg (fun e => h1 e.1), if_neg (fun e => h2 e.1)]; omega
theorem dsum_shut (f : Pay → Bool) (l : List Pay) : dsum f (l.map Pay.shut) = dsum f l := by
  simp only [dsum, List.map_map]
  congr 1
  refine List.map_congr_left fun p _ => ?_
  simp only [Function.comp, Pay.shut]
  split
  · rename_i e; simp [Pay.gone, e]
  · rfl
theorem waitsAt_true {l : List Pay} {n : Int} (h : waitsAt l n = true) : n.toNat < l.length ∧ (payAt l n.toNat).st = 1 ∧ 0 ≤ n := by
  have := of_decide_eq_true h
  exact ⟨by omega, this.2.2, this.1⟩
theorem shut_good {p : Pay} (h : goodPay p = true) : goodPay p.shut = true := by
  obtain ⟨h1, h2, h3, h4, h5, h6⟩ := goodPay_iff.1 h
  simp only [Pay.shut]
  split
  · exact goodPay_iff.2 ⟨h1, h2, h3, by simp [Pay.gone], by simp [Pay.gone], h6⟩
  · exact h
theorem set_seqs {l : List Pay} {i : Nat} {q : Pay} (h : q.seq = (payAt l i).seq) : (l.set i q).map (·.seq) = l.map (·.seq) := by
  by_cases hi : i < l.length
  · rw [List.map_set, h]
    apply List.ext_getElem?
    intro k
    by_cases hk : i = k
    · subst hk
      rw [List.getElem?_set_self (by simpa using hi), List.getElem?_map, payAt_get hi]; rfl
    · rw [List.getElem?_set_ne hk]
  · rw [List.set_eq_of_length_le (by omega)]
/-- What may become of a house but for its sweeping. -/
theorem Inv.gone {h : Hs} {l : List Pay} (v : Inv h l) {n : Int} (hw : waitsAt l n = true) : Inv h (l.set n.toNat (payAt l n.toNat).gone) := by
  obtain ⟨hi, h1, _⟩ := waitsAt_true hw
  have hp := v.pays _ (payAt_mem hi)
  obtain ⟨g1, g2, g3, g4, g5, g6⟩ := goodPay_iff.1 hp.1
  have hd : ∀ f, dsum f (l.set n.toNat (payAt l n.toNat).gone) = dsum f l := fun f => dsum_same f hi (by omega) (by simp [Pay.gone])
  refine ⟨by rw [List.length_set]; exact v.len, v.next, fun i h0 h1 => by rw [hd]; exact v.hi i h0 h1, v.cr, v.lim, fun i k h0 h1 k0 k1 => by rw [hd]; exact v.sent i k h0 h1 k0 k1, set_pays v.pays ⟨goodPay_iff.2 ⟨g1, g2, g3, by simp [Pay.gone], by simp [Pay.gone], g6⟩, hp.2⟩, ?_⟩
  rw [set_seqs (l := l) (i := n.toNat) (q := (payAt l n.toNat).gone) rfl]; exact v.nodup
theorem Inv.last {h : Hs} {l : List Pay} (v : Inv h l) {n c : Int} (hw : waitsAt l n = true) (hc : sm 0 c 2 = true) (hn : h.next < 1048576) : Inv (h.setNext (h.next + 1)) (l.set n.toNat ((payAt l n.toNat).last c h.next)) := by
  obtain ⟨hi, h1, _⟩ := waitsAt_true hw
  have hc := sm_true hc
  have hx := v.next
  have hp := v.pays _ (payAt_mem hi)
  obtain ⟨g1, g2, g3, g4, g5, g6⟩ := goodPay_iff.1 hp.1
  have hd : ∀ f, dsum f (l.set n.toNat ((payAt l n.toNat).last c h.next)) = dsum f l := fun f => dsum_same f hi (by omega) (by simp [Pay.last]; omega)
  refine ⟨by rw [List.length_set]; exact v.len, by simp only [Hs.setNext]; omega, fun i h0 h1 => by rw [hd]; exact v.hi i h0 h1, v.cr, v.lim, fun i k h0 h1 k0 k1 => by rw [hd]; exact v.sent i k h0 h1 k0 k1, ?_, ?_⟩
  · refine set_pays (fun p hp => ⟨(v.pays p hp).1, ?_⟩) ⟨goodPay_iff.2 ⟨g1, by simp [Pay.last]; omega, by simp [Pay.last]; omega, by simp [Pay.last]; omega, by simp [Pay.last]; omega, by simp [Pay.last]; omega⟩, ?_⟩
    · have := (v.pays p hp).2; simp only [Hs.setNext]; omega
    · simp only [Hs.setNext, Pay.last]; omega
  · rw [List.map_set]
    have hm : ∀ s ∈ l.map (·.seq), s < h.next := fun s hs => by
      obtain ⟨p, hp, rfl⟩ := List.mem_map.1 hs
      exact (v.pays p hp).2
    have hnd := v.nodup
    show ((l.map (·.seq)).set n.toNat h.next).Nodup
    generalize l.map (·.seq) = xs at hm hnd ⊢
    rw [List.nodup_iff_pairwise_ne, List.pairwise_iff_getElem] at hnd ⊢
    intro i j hi hj hij
    simp only [List.length_set] at hi hj
    have e1 := hm xs[i] (List.getElem_mem hi)
    have e2 := hm xs[j] (List.getElem_mem hj)
    have e3 := hnd i j hi hj hij
    rw [List.getElem_set, List.getElem_set]
    split
    · split
      · omega
      · omega
    · split
      · omega
      · exact e3
theorem Inv.pay {h : Hs} {l : List Pay} (v : Inv h l) {p : Pay} (hg : goodPay p = true) (hs : p.seq = h.next) (h1 : p.st = 1) (hl : l.length < 24) (hn : h.next < 1048576) : Inv (h.setNext (h.next + 1)) (l ++ [p]) := by
  have hx := v.next
  have hd : ∀ f, dsum f (l ++ [p]) = dsum f l := fun f => by rw [dsum_app]; simp [dsum, h1]
  refine ⟨by simp; omega, by simp only [Hs.setNext]; omega, fun i h0 h1 => by rw [hd]; exact v.hi i h0 h1, v.cr, v.lim, fun i k h0 h1 k0 k1 => by rw [hd]; exact v.sent i k h0 h1 k0 k1, ?_, ?_⟩
  · intro q hq
    rcases List.mem_append.1 hq with hq | hq
    · have := v.pays q hq
      exact ⟨this.1, by have := this.2; simp only [Hs.setNext]; omega⟩
    · simp only [List.mem_singleton] at hq
      subst hq
      exact ⟨hg, by simp only [Hs.setNext]; omega⟩
  · rw [List.map_append]
    refine nodup_snoc v.nodup fun hm => ?_
    obtain ⟨q, hq, e⟩ := List.mem_map.1 hm
    have := (v.pays q hq).2
    simp only at e
    omega
theorem Inv.shut {h : Hs} {l : List Pay} (v : Inv h l) : Inv h (l.map Pay.shut) := by
  refine ⟨by simpa using v.len, v.next, fun i h0 h1 => by rw [dsum_shut]; exact v.hi i h0 h1, v.cr, v.lim, fun i k h0 h1 k0 k1 => by rw [dsum_shut]; exact v.sent i k h0 h1 k0 k1, ?_, ?_⟩
  · intro p hp
    obtain ⟨q, hq, rfl⟩ := List.mem_map.1 hp
    refine ⟨shut_good (v.pays q hq).1, ?_⟩
    have := (v.pays q hq).2
    simp only [Pay.shut]
    split
    · exact this
    · exact this
  · rw [List.map_map]
    have : (fun p : Pay => p.seq) ∘ Pay.shut = fun p => p.seq := by
      funext p
      simp only [Function.comp, Pay.shut]
      split <;> rfl
    rw [this]
    exact v.nodup
theorem Inv.credit {h : Hs} {l : List Pay} (v : Inv h l) (i n : Int) (hn : sm 0 n 1000000 = true) : Inv (h.setCr i n) l := by
  have hn := sm_true hn
  refine ⟨v.len, v.next, v.hi, fun k h0 h1 => ?_, v.lim, v.sent, v.pays, v.nodup⟩
  have := v.cr k h0 h1
  simp only [Hs.setCr]
  split <;> omega
theorem Inv.limit {h : Hs} {l : List Pay} (v : Inv h l) (i k n : Int) (hn : sm (-1) n 1000000 = true) : Inv (h.setLim i k n) l := by
  have hn := sm_true hn
  refine ⟨v.len, v.next, v.hi, v.cr, fun a b a0 a1 b0 b1 => ?_, v.sent, v.pays, v.nodup⟩
  have := v.lim a b a0 a1 b0 b1
  simp only [Hs.setLim]
  split <;> omega
theorem Inv.fund {h : Hs} {l : List Pay} (v : Inv h l) (i x : Int) (hx : x ≤ 549756813888) : Inv (h.setHas i x) l := by
  refine ⟨v.len, v.next, fun k h0 h1 => ?_, v.cr, v.lim, v.sent, v.pays, v.nodup⟩
  have := v.hi k h0 h1
  have := dsum_bound (toB k) l fun p hp => (v.pays p hp).1
  simp only [Hs.setHas]
  split <;> omega
theorem Inv.spend {h : Hs} {l : List Pay} (v : Inv h l) (i x : Int) (h0 : 0 ≤ i) (h1 : i < 4) (hx : x ≤ h.has i) : Inv (h.setHas i x) l := by
  refine ⟨v.len, v.next, fun k k0 k1 => ?_, v.cr, v.lim, v.sent, v.pays, v.nodup⟩
  have := v.hi k k0 k1
  have := v.hi i h0 h1
  simp only [Hs.setHas]
  split
  · rename_i e; subst e; omega
  · omega
theorem Low.set {h : Hs} (lo : Low h) (i x : Int) (hx : -1000000 ≤ x) : Low (h.setHas i x) := by
  intro k k0 k1
  have := lo k k0 k1
  simp only [Hs.setHas]
  split <;> omega

/-- What an act makes of a house, case by case: refused; swept; shut. -/
inductive Case (h : Hs) (l : List Pay) (a : Deed) : Nx → Prop where
  | err (c : Int) : c ≠ 0 → Case h l a (.err h l c)
  | pay : a.kind = 1 → goodPay (payOf h a) = true → l.length < 24 → h.next < 1048576 → Case h l a (.swept (h.setNext (h.next + 1)) (l ++ [payOf h a]) l.length [])
  | gone : a.kind = 2 → waitsAt l a.a = true → Case h l a (.swept h (l.set a.a.toNat (payAt l a.a.toNat).gone) 0 [])
  | last : a.kind = 3 → waitsAt l a.a = true → sm 0 a.c 2 = true → h.next < 1048576 → Case h l a (.swept (h.setNext (h.next + 1)) (l.set a.a.toNat ((payAt l a.a.toNat).last a.c h.next)) 0 [])
  | credit : a.kind = 4 → sm 0 a.a 3 = true → sm 0 a.n 1000000 = true → Case h l a (.swept (h.setCr a.a a.n) l 0 [])
  | limit : a.kind = 5 → sm 0 a.a 3 = true → sm 0 a.b 3 = true → a.a ≠ a.b → sm (-1) a.n 1000000 = true → Case h l a (.swept (h.setLim a.a a.b a.n) l 0 [])
  | fund : a.kind = 6 → sm 0 a.a 3 = true → sm 1 a.n 1000000 = true → h.has a.a < 549755813888 → Case h l a (.swept (h.setHas a.a (h.has a.a + a.n)) l 0 [])
  | spend : a.kind = 7 → sm 0 a.a 3 = true → sm 1 a.n 1000000 = true → a.n ≤ h.has a.a + h.cr a.a → Case h l a (.swept (h.setHas a.a (h.has a.a - a.n)) l 0 [])
  | untie : a.kind = 8 → Case h l a (.swept (untieS h l).h (untieS h l).l (untieS h l).d.length (untieS h l).d)
  | shut : a.kind = 9 → Case h l a ⟨h, l.map Pay.shut, 0, waiting l, []⟩
theorem not_or_false {b c : Bool} (h : ¬ (b = false ∨ c = false)) : b = true ∧ c = true := by
  cases b <;> cases c <;> simp_all
theorem next_case (h : Hs) (l : List Pay) (a : Deed) : Case h l a (nextL h l a) := by
  have e : ∀ c : Int, c ≠ 0 → Case h l a (.err h l c) := fun c hc => .err c hc
  have bt : ∀ b : Bool, ¬ b = false → b = true := fun b hb => by cases b <;> simp_all
  unfold nextL
  refine iteInduction (fun _ => e 1 (by decide)) fun _ => iteInduction (fun hk => ?_) fun _ => iteInduction (fun hk => ?_) fun _ => iteInduction (fun hk => ?_) fun _ => iteInduction (fun hk => ?_) fun _ => iteInduction (fun hk => ?_) fun _ => iteInduction (fun hk => ?_) fun _ => iteInduction (fun hk => ?_) fun _ => iteInduction (fun hk => .untie hk) fun _ => iteInduction (fun hk => .shut hk) fun _ => e 2 (by decide)
  · exact iteInduction (fun _ => e 3 (by decide)) fun h1 => iteInduction (fun _ => e 5 (by decide)) fun h2 => .pay hk (bt _ h1) (by omega) (by omega)
  · exact iteInduction (fun _ => e 4 (by decide)) fun h1 => .gone hk (bt _ h1)
  · exact iteInduction (fun _ => e 4 (by decide)) fun h1 => iteInduction (fun _ => e 3 (by decide)) fun h2 => iteInduction (fun _ => e 5 (by decide)) fun h3 => .last hk (bt _ h1) (bt _ h2) (by omega)
  · exact iteInduction (fun _ => e 3 (by decide)) fun h1 => .credit hk (not_or_false h1).1 (not_or_false h1).2
  · refine iteInduction (fun _ => e 3 (by decide)) fun h1 => ?_
    obtain ⟨h1, h2⟩ := not_or.1 h1
    obtain ⟨h2, h3⟩ := not_or.1 h2
    obtain ⟨h3, h4⟩ := not_or.1 h3
    exact .limit hk (bt _ h1) (bt _ h2) h3 (bt _ h4)
  · exact iteInduction (fun _ => e 3 (by decide)) fun h1 => iteInduction (fun _ => e 5 (by decide)) fun h2 => .fund hk (not_or_false h1).1 (not_or_false h1).2 (by omega)
  · exact iteInduction (fun _ => e 3 (by decide)) fun h1 => iteInduction (fun _ => e 6 (by decide)) fun h2 => .spend hk (not_or_false h1).1 (not_or_false h1).2 (by omega)
theorem shut_none (l : List Pay) (b : Int) : ofL (l.map Pay.shut) b = [] := by
  cases hq : ofL (l.map Pay.shut) b with
  | nil => rfl
  | cons i xs =>
    have hi := (ofL_mem (l := l.map Pay.shut) (bank := b) (i := i)).1 (by rw [hq]; simp)
    have hl : i < l.length := by simpa using hi.1
    have e : payAt (l.map Pay.shut) i = (payAt l i).shut := payAt_some (by rw [List.getElem?_map, payAt_get hl]; rfl)
    have := hi.2.1
    rw [e] at this
    simp only [Pay.shut] at this
    split at this
    · simp [Pay.gone] at this
    · omega
/-- Behind an act the house is good, and nobody may do the first of its payments. -/
structure Good3 (h : Hs) (l : List Pay) : Prop where
  inv : Inv h l
  low : Low h
  rest : Rests ⟨h, l, []⟩
theorem rests_d {h : Hs} {l : List Pay} {d e : List Nat} (r : Rests ⟨h, l, d⟩) : Rests ⟨h, l, e⟩ := fun b hb i xs hq => r b hb i xs hq
theorem good3_swept {h : Hs} {l : List Pay} (n : Int) (pre : List Nat) (v : Inv h l) (lo : Low h) : Good3 (Nx.swept h l n pre).h (Nx.swept h l n pre).l := by
  obtain ⟨h1, h2⟩ := v.sweep lo
  exact ⟨h1, h2, rests_d (sweep_restsG (v.goodB lo))⟩
theorem Good3.next {h : Hs} {l : List Pay} (g : Good3 h l) (a : Deed) : Good3 (nextL h l a).h (nextL h l a).l := by
  have hc := next_case h l a
  revert hc
  generalize nextL h l a = x
  intro hc
  cases hc with
  | err c _ => exact g
  | pay hk h1 h2 h3 => exact good3_swept _ _ (g.inv.pay h1 rfl rfl h2 h3) g.low
  | gone hk h1 => exact good3_swept _ _ (g.inv.gone h1) g.low
  | last hk h1 h2 h3 => exact good3_swept _ _ (g.inv.last h1 h2 h3) g.low
  | credit hk h1 h2 => exact good3_swept _ _ (g.inv.credit _ _ h2) g.low
  | limit hk h1 h2 h3 h4 => exact good3_swept _ _ (g.inv.limit _ _ _ h4) g.low
  | fund hk h1 h2 h3 =>
    have h1 := sm_true h1; have h2 := sm_true h2
    have := g.low a.a (by omega) (by omega)
    exact good3_swept _ _ (g.inv.fund _ _ (by omega)) (g.low.set _ _ (by omega))
  | spend hk h1 h2 h3 =>
    have h1 := sm_true h1; have h2 := sm_true h2
    have := g.inv.cr a.a (by omega) (by omega)
    exact good3_swept _ _ (g.inv.spend _ _ (by omega) (by omega) (by omega)) (g.low.set _ _ (by omega))
  | untie hk =>
    obtain ⟨h1, h2⟩ := g.inv.untie g.low
    exact good3_swept _ _ h1 h2
  | shut hk => exact ⟨g.inv.shut, g.low, fun b _ i xs hq => by rw [shut_none] at hq; cases hq⟩
theorem good3_new : Good3 Hs.new [] where
  inv := ⟨by simp, by simp [Hs.new], fun i _ _ => by simp [Hs.new, dsum], fun i _ _ => by simp [Hs.new], fun i k _ _ _ _ => by simp [Hs.new], fun i k _ _ _ _ => by simp [Hs.new, dsum], by simp, by simp⟩
  low := fun i _ _ => by simp [Hs.new]
  rest := fun b _ i xs hq => by
    have := (ofL_mem (l := []) (bank := (b : Int)) (i := i)).1 (by rw [hq]; simp)
    simp at this
end Go.Proofs.Ytggfdkkhlokmlaa
