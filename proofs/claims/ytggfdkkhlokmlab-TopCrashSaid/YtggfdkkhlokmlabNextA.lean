/- bank.next: what it leaves; refused kinds; a payment. -/
import Derived.Test.YtggfdkkhlokmlabBankFns
import Derived.Test.YtggfdkkhlokmlabCLed
import Derived.Test.YtggfdkkhlokmlabCSwp
import Derived.Test.YtggfdkkhlokmlabGate2
import Derived.Test.YtggfdkkhlokmlabOnly
namespace Go.Proofs.Ytggfdkkhlokmlab
open Go.RowKit
attribute [local go_sem] hc_pays hc_next hc_size rc_0 rc_1 rc_2 rc_size dc_0 dc_1 dc_2 dc_3 dc_4 dc_size
theorem four4 (w : World) (o1 o2 o3 o4 : Obj) : ((((w.alloc o1).alloc o2).alloc o3).alloc o4).heap[w.heap.size]? = some o1 ∧ ((((w.alloc o1).alloc o2).alloc o3).alloc o4).heap[w.heap.size + 1]? = some o2 ∧ ((((w.alloc o1).alloc o2).alloc o3).alloc o4).heap[w.heap.size + 2]? = some o3 ∧ ((((w.alloc o1).alloc o2).alloc o3).alloc o4).heap[w.heap.size + 3]? = some o4 ∧ Below w.heap.size w ((((w.alloc o1).alloc o2).alloc o3).alloc o4) := by
 have h2 := hnew (w.alloc o1) o2
 have h3 := hnew ((w.alloc o1).alloc o2) o3
 have h4 := hnew (((w.alloc o1).alloc o2).alloc o3) o4
 simp only [alloc_sz] at h2 h3 h4
 exact ⟨hold (hold (hold (hnew w o1) _) _) _, hold (hold h2 _) _, hold h3 _, h4, ((((Below.refl w.heap.size w).alloc (Nat.le_refl _) _).alloc (by simp) _).alloc (by simp; omega) _).alloc (by simp; omega) _⟩
/-- A house and an answer, by value: its payments lie in the block of v0 or in a new one, and not where the list of the answer lies; only the block of v0 is written. -/
def NextPost (v0 : Value) (X : Nx) (w : World) (e : Ending) (w' : World) : Prop :=
 (∃ a cap v, e = .returned (.tuple #[.agg (hc X.h (.slice a X.l.length cap)), .agg (rc X.code X.n v)]) ∧ PaysAt w' a cap X.l ∧ OwnInts w' w.heap.size v (nats X.done) ∧ (0 < X.l.length → ∀ b off s, a = some ⟨b, off, s⟩ → (v0.ownBlock = some b ∨ w.heap.size ≤ b) ∧ v.ownBlock ≠ some b)) ∧ Only (fun b => v0.ownBlock = some b) w w'
theorem OwnInts.grownN {w w' : World} {base : Nat} {v : Value} {l : List Int} {g : Nat} (h : OwnInts w base v l) (hg : w.grownBy w' (some g)) (hne : ∀ x, v.ownBlock = some x → x ≠ g) : OwnInts w' base v l := by
 obtain ⟨⟨hlen, hv⟩, hroom⟩ := h
 refine ⟨⟨hlen, ?_⟩, hroom⟩
 rcases hv with h0 | ⟨g', cap, cur, rfl, hb', hg', hrest⟩
 ·exact .inl h0
 ·exact .inr ⟨g', cap, cur, rfl, hb', (hg.block _ (hlt hg') (by simpa using hne g' rfl)).trans hg', hrest⟩
theorem payN {w w' : World} {a : Option Addr} {cap : Nat} {l : List Pay} {g : Nat} (h : PaysAt w a cap l) (hg : w.grownBy w' (some g)) (ha : 0 < l.length → ∀ b off s, a = some ⟨b, off, s⟩ → b ≠ g) : PaysAt w' a cap l :=
 ⟨h.le, h.capm, h.room, h.nil0, fun hl => let ⟨b, off, e, hbl, hc⟩ := h.row hl
  ⟨b, off, e, Nat.lt_of_lt_of_le hbl hg.size, fun i p hp j v hv => (World.cell?_of_block (hg.block b hbl (fun e' => ha hl b off none e (by simpa using e')))).trans (hc i p hp j v hv)⟩⟩
/-- Behind the two last stores. -/
theorem next_end {v0 : Value} {w wn wa wb : World} {X : Nx} {a : Option Addr} {cap : Nat} {v : Value} {e : Ending} (he : e = .returned (.tuple #[.agg (hc X.h (.slice a X.l.length cap)), .agg (rc X.code X.n v)])) (hB : Only (fun b => v0.ownBlock = some b) w wn) (_hz : w.heap.size + 3 < wn.heap.size)
  (hga : wn.grownBy wa (some (w.heap.size + 2))) (hgb : wa.grownBy wb (some (w.heap.size + 3))) (hp : PaysAt wn a cap X.l) (hap : 0 < X.l.length → ∀ b off s, a = some ⟨b, off, s⟩ → (v0.ownBlock = some b ∨ w.heap.size ≤ b) ∧ b ≠ w.heap.size + 2 ∧ b ≠ w.heap.size + 3 ∧ v.ownBlock ≠ some b)
  (ho : OwnInts wn w.heap.size v (nats X.done)) (hvo : ∀ x, v.ownBlock = some x → x ≠ w.heap.size + 2 ∧ x ≠ w.heap.size + 3) : NextPost v0 X w e wb := by
 have h1 := payN hp hga fun hl b off s e => (hap hl b off s e).2.1
 have h2 := payN h1 hgb fun hl b off s e => (hap hl b off s e).2.2.1
 have h3 := ho.grownN hga fun x hx => (hvo x hx).1
 have h4 := h3.grownN hgb fun x hx => (hvo x hx).2
 have hB2 := (hB.step (only_grown hga) fun b e => by cases e; right; omega).step (only_grown hgb) fun b e => by cases e; right; omega
 exact ⟨⟨a, cap, v, he, h2, h4, fun hl b off s e => ⟨(hap hl b off s e).1, (hap hl b off s e).2.2.2⟩⟩, hB2⟩
set_option maxRecDepth 100000 in
set_option maxHeartbeats 4000000 in
theorem next_other (h : Hs) (l : List Pay) (v0 : Value) (a b c n k : Int) (w : World) (hown : OwnPays w 0 v0 l) (g : GoodP h l) (hk : k ≠ 1 ∧ k ≠ 2 ∧ k ≠ 3 ∧ k ≠ 4 ∧ k ≠ 5 ∧ k ≠ 6 ∧ k ≠ 7 ∧ k ≠ 8 ∧ k ≠ 9) :
  Calls Try.prog 61 #[.agg (hc h v0), .agg (dc ⟨k, a, b, c, n⟩)] w (NextPost v0 (.err h l 2) w) := by
 obtain ⟨k1, k2, k3, k4, k5, k6, k7, k8, k9⟩ := hk
 have q1 : (k == 1) = false := by rw [beq_eq_false_iff_ne]; exact k1
 have q2 : (k == 2) = false := by rw [beq_eq_false_iff_ne]; exact k2
 have q3 : (k == 3) = false := by rw [beq_eq_false_iff_ne]; exact k3
 have q4 : (k == 4) = false := by rw [beq_eq_false_iff_ne]; exact k4
 have q5 : (k == 5) = false := by rw [beq_eq_false_iff_ne]; exact k5
 have q6 : (k == 6) = false := by rw [beq_eq_false_iff_ne]; exact k6
 have q7 : (k == 7) = false := by rw [beq_eq_false_iff_ne]; exact k7
 have q8 : (k == 8) = false := by rw [beq_eq_false_iff_ne]; exact k8
 have q9 : (k == 9) = false := by rw [beq_eq_false_iff_ne]; exact k9
 clear k1 k2 k3 k4 k5 k6 k7 k8 k9
 obtain ⟨a0, cap0, rfl, hp, hpb⟩ := hown.at_
 have hpl : 0 < l.length → ∀ b off s, a0 = some ⟨b, off, s⟩ → b < w.heap.size := fun hl b off s e => by
  obtain ⟨b', off', e', hbl, _⟩ := hp.row hl
  rw [e] at e'; cases e'; exact hbl
 have hlen := g.len
 have hroom := g.room
 replace hp := Lib.hid hp
 replace hpb := Lib.hid hpb
 replace hpl := Lib.hid hpl
 replace hown := Lib.hid hown
 go_enter Try.func61, Try.ntmps61
 go_upto_region 1 with fail
 generalize hW : World.alloc (World.alloc (World.alloc (World.alloc w _) _) _) _ = W0
 obtain ⟨hA, hD, hH, hR, hB⟩ : W0.heap[w.heap.size]? = some (.cells (hc h (.slice a0 l.length cap0)) 29 (0, 0)) ∧ W0.heap[w.heap.size + 1]? = some (.cells (dc ⟨k, a, b, c, n⟩) 40 (0, 0)) ∧ W0.heap[w.heap.size + 2]? = some (.cells (hc Hs.zero (.slice none 0 0)) 29 (0, 0)) ∧ W0.heap[w.heap.size + 3]? = some (.cells (rc 0 0 (.slice none 0 0)) 44 (0, 0)) ∧ Below w.heap.size w W0 := by rw [← hW]; exact four4 w _ _ _ _
 have hp0 := hp.out.below hB
 have cA := cells_at hA
 have cD := cells_at hD
 clear hW
 go_wp2_with (first | go_skip | (go_at_call 78; refine (nextNo_any h _ rfl 2 w.heap.size _ hA).mono ?_; rintro e wn ⟨rfl, hbn⟩) | (refine st_row 29 _ _ rfl rfl _ rfl _ rfl _ _ (hkeep hbn hH) info30 rfl (hc_one _ _ rfl) ?_; intro wa hra hgra hsza) | (refine st_row 44 _ _ rfl rfl _ rfl (rc 2 0 (.slice none 0 0)) rfl _ _ ((hgra.block _ (hlt (hkeep hbn hR)) (by simp)).trans (hkeep hbn hR)) infoRp rfl (rc_one _ _ _ rfl) ?_; intro wb hrb hgrb hszb))
 have hBn := bstep hB hB.size hbn
 have hzn := Nat.le_trans (hlt hR) hbn.size
 exact bodyPost_ret (results_hr rfl _ _ _ _ _ _ _ _ _ rfl rfl ((hgrb.block _ (hlt hra) (by simp)).trans hra) hrb) rfl (next_end (X := .err h l 2) rfl (only_new hBn) hzn hgra hgrb ((hp0).below hbn) (fun hl b off s e => ⟨.inl (by rw [e]; rfl), by have := hpl.out hl b off s e; omega, by have := hpl.out hl b off s e; omega, by simp [Value.ownBlock]⟩) (OwnInts.nil _ _) (fun x hx => by simp [Value.ownBlock] at hx))
end Go.Proofs.Ytggfdkkhlokmlab


