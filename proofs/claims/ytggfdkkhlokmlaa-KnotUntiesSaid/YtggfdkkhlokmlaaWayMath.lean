/- QueueRests: the walk. -/
import Derived.Test.YtggfdkkhlokmlaaQueues
import Derived.Test.YtggfdkkhlokmlaaTells
import Derived.Test.YtggfdkkhlokmlaaLedgerSums
namespace Go.Proofs.Ytggfdkkhlokmlaa
open Go.RowKit
attribute [local go_sem high] neq_accs neq_sents neq_lims neq_pay neq_pay6
attribute [local go_sem] hc_pays hc_next hc_size pc_0 pc_1 pc_2 pc_3 pc_4 pc_5
/-- The way from S: each that was done was the first of its bank, and might be done. -/
structure Way (S T : St) : Prop where
  fin : T = settleAll T.d S
  step : ∀ k n, T.d[k]? = some n → ∃ b ys, ofL (settleAll (T.d.take k) S).l b = n :: ys ∧ (settleAll (T.d.take k) S).may n = true
theorem way_start {S : St} (h : S.d = []) : Way S S := ⟨by rw [h]; rfl, fun k n hk => by rw [h] at hk; simp at hk⟩
theorem Way.settle {S T : St} (w : Way S T) {b : Int} {i : Nat} {xs : List Nat} (h : ofL T.l b = i :: xs) (hm : T.may i = true) : Way S (T.settle i) where
  fin := by
    show T.settle i = settleAll (T.d ++ [i]) S
    rw [settleAll_app, ← w.fin]; rfl
  step := fun k n hk => by
    have hk' : (T.d ++ [i])[k]? = some n := hk
    show ∃ b ys, ofL (settleAll ((T.d ++ [i]).take k) S).l b = n :: ys ∧ (settleAll ((T.d ++ [i]).take k) S).may n = true
    by_cases h1 : k < T.d.length
    · rw [List.getElem?_append_left h1] at hk'
      rw [List.take_append_of_le_length (by omega)]
      exact w.step k n hk'
    · have hkl : k < (T.d ++ [i]).length := (List.getElem?_eq_some_iff.1 hk').1
      have e : k = T.d.length := by simp at hkl; omega
      subst e
      rw [List.getElem?_append_right (Nat.le_refl _)] at hk'
      simp at hk'
      subst hk'
      rw [List.take_append_of_le_length (Nat.le_refl _), List.take_length, ← w.fin]
      exact ⟨b, xs, h, hm⟩
theorem way_sweep {S : St} (hn : (S.l.map (·.seq)).Nodup) (hd : S.d = []) : Way S (sweepS S) :=
  (visits_ind (fun T => Way S T ∧ (T.l.map (·.seq)).Nodup) (fun _ h => h.2) (fun b T i xs _ hT hq hm => ⟨hT.1.settle hq hm, by rw [settle_seqs]; exact hT.2⟩) S ⟨way_start hd, hn⟩ _).1
theorem sweep_total (S : St) (hn : (S.l.map (·.seq)).Nodup) : (sweepS S).h.total = S.h.total :=
  (visits_ind (fun T => T.h.total = S.h.total ∧ (T.l.map (·.seq)).Nodup) (fun _ h => h.2) (fun b T i xs _ hT hq hm => ⟨(move_total _ _ _ _).trans hT.1, by rw [settle_seqs]; exact hT.2⟩) S ⟨rfl, hn⟩ _).1
theorem wk_all {S : St} (k0 : Wk S S) (hd : S.d = []) : ∀ (xs : List Nat) (T : St), Wk S T → (∀ k n, xs[k]? = some n → (n < (settleAll (xs.take k) T).l.length ∧ (payAt (settleAll (xs.take k) T).l n).st = 1)) → Wk S (settleAll xs T)
  | [], T, h, _ => h
  | i :: xs, T, h, hs => by
    have h0 := hs 0 i rfl
    exact wk_all k0 hd xs (T.settle i) (h.settle h0.1 h0.2) fun k n hk => hs (k + 1) n hk
theorem Way.wk {S T : St} (w : Way S T) (k0 : Wk S S) (hd : S.d = []) (k : Nat) : Wk S (settleAll (T.d.take k) S) :=
  wk_all k0 hd (T.d.take k) S k0 fun j n hj => by
    have hjk : j < k := by have := (List.getElem?_eq_some_iff.1 hj).1; rw [List.length_take] at this; omega
    rw [List.getElem?_take_of_lt hjk] at hj
    obtain ⟨b, ys, hq, _⟩ := w.step j n hj
    rw [List.take_take, Nat.min_eq_left (by omega)]
    have := (ofL_mem (l := (settleAll (T.d.take j) S).l) (bank := b) (i := n)).1 (by rw [hq]; simp)
    exact ⟨this.1, this.2.1⟩
theorem settleAll_snoc {S T : St} {k n : Nat} (h : T.d[k]? = some n) : settleAll (T.d.take (k + 1)) S = (settleAll (T.d.take k) S).settle n := by
  have : T.d.take (k + 1) = T.d.take k ++ [n] := by
    rw [List.take_add_one, h]; rfl
  rw [this, settleAll_app]; rfl
/-- A store into block g leaves payments elsewhere as they were. -/
theorem PaysAt.past {w w' : World} {a : Option Addr} {cap : Nat} {l : List Pay} {g : Nat} (h : PaysAt w a cap l) (hg : w.grownBy w' (some g)) (ha : 0 < l.length → ∀ b off s, a = some ⟨b, off, s⟩ → b ≠ g) : PaysAt w' a cap l :=
  ⟨h.le, h.capm, h.room, h.nil0, fun hl => let ⟨b, off, e, hbl, hc⟩ := h.row hl
    ⟨b, off, e, Nat.lt_of_lt_of_le hbl hg.size, fun i p hp j v hv => (World.cell?_of_block (hg.block b hbl (by simpa using ha hl b off none e))).trans (hc i p hp j v hv)⟩⟩
theorem IntsAt.past {w w' : World} {a : Option Addr} {cap : Nat} {l : List Int} {g : Nat} (h : IntsAt w a cap l) (hg : w.grownBy w' (some g)) (ha : 0 < l.length → ∀ b off s, a = some ⟨b, off, s⟩ → b ≠ g) : IntsAt w' a cap l :=
  ⟨h.le, h.capm, h.room, h.nil0, fun hl => let ⟨b, off, e, hbl, hc⟩ := h.row hl
    ⟨b, off, e, Nat.lt_of_lt_of_le hbl hg.size, fun i n hn => (World.cell?_of_block (hg.block b hbl (by simpa using ha hl b off none e))).trans (hc i n hn)⟩⟩
theorem PaysAt.blk {w : World} {a : Option Addr} {cap : Nat} {l : List Pay} (h : PaysAt w a cap l) {g : Nat} (hg : w.heap.size ≤ g) : 0 < l.length → ∀ b off s, a = some ⟨b, off, s⟩ → b ≠ g := fun hl b off s e => by
  obtain ⟨b', off', e', hbl, _⟩ := h.row hl
  rw [e] at e'; cases e'; omega
theorem IntsAt.blk {w : World} {a : Option Addr} {cap : Nat} {l : List Int} (h : IntsAt w a cap l) {g : Nat} (hg : w.heap.size ≤ g) : 0 < l.length → ∀ b off s, a = some ⟨b, off, s⟩ → b ≠ g := fun hl b off s e => by
  obtain ⟨b', off', e', hbl, _⟩ := h.row hl
  rw [e] at e'; cases e'; omega
end Go.Proofs.Ytggfdkkhlokmlaa
