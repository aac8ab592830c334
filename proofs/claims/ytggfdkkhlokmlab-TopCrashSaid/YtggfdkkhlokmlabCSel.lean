/- The least of those that are left, again and again: plain Lean. -/
import Derived.Deep.LoopGhost
import Derived.BigQuiet
import Derived.WalkKit
import Derived.BigRegion
import Derived.Outline
import Derived.Lib.SliceRun
import Derived.Deep.Cut
import Derived.Test.YtggfdkkhlokmlabCPln
import Derived.Test.YtggfdkkhlokmlabCMem
import Derived.Test.YtggfdkkhlokmlabCLed
namespace Go.Proofs.Ytggfdkkhlokmlab
open Go.RowKit

/-- out: what j rounds have picked. -/
structure Sel (l : List Pay) (bank : Int) (out : List Nat) (j : Nat) : Prop where
 nodup : out.Nodup
 sub : ∀ x ∈ out, x ∈ waits l bank
 sorted : out.Pairwise fun i k => leB l i k = true
 low : ∀ x ∈ out, ∀ y ∈ waits l bank, y ∉ out → leB l x y = true
 prog : out.length = j ∨ ∀ y ∈ waits l bank, y ∈ out
/-- b: the least among the first i that wait and are not picked; -1: there is none. -/
def Best (l : List Pay) (bank : Int) (out : List Nat) (i : Nat) (b : Int) : Prop :=
 (b = -1 ∧ ∀ k, k < i → k ∈ waits l bank → k ∈ out) ∨ (∃ m : Nat, b = m ∧ m < i ∧ m ∈ waits l bank ∧ m ∉ out ∧ ∀ k, k < i → k ∈ waits l bank → k ∉ out → leB l m k = true)
theorem Sel.zero (l : List Pay) (bank : Int) : Sel l bank [] 0 := ⟨List.nodup_nil, by simp, List.Pairwise.nil, by simp, .inl rfl⟩
theorem Sel.none {l : List Pay} {bank : Int} {out : List Nat} {j : Nat} (h : Sel l bank out j) (hb : Best l bank out l.length (-1)) : Sel l bank out (j + 1) := by
 rcases hb with ⟨_, hb⟩ | ⟨m, e, _⟩
 ·exact ⟨h.nodup, h.sub, h.sorted, h.low, .inr fun y hy => hb y (waits_mem.1 hy).1 hy⟩
 ·omega
theorem Sel.some {l : List Pay} {bank : Int} {out : List Nat} {j m : Nat} (h : Sel l bank out j) (hb : Best l bank out l.length m) : m < l.length ∧ m ∉ out ∧ Sel l bank (out ++ [m]) (j + 1) := by
 rcases hb with ⟨e, _⟩ | ⟨m', e, hm, hw, ho, hb⟩
 ·omega
 ·have e : m = m' := by omega
  subst e
  refine ⟨hm, ho, ⟨?_, ?_, ?_, ?_, ?_⟩⟩
  ·rw [List.nodup_append]
   refine ⟨h.nodup, by simp, fun a ha b hb' e => ho ?_⟩
   simp only [List.mem_singleton] at hb'
   rw [← hb', ← e]; exact ha
  ·intro x hx
   rcases List.mem_append.1 hx with hx | hx
   ·exact h.sub x hx
   ·simp only [List.mem_singleton] at hx; rw [hx]; exact hw
  ·rw [List.pairwise_append]
   refine ⟨h.sorted, by simp, fun a ha b hb' => ?_⟩
   simp only [List.mem_singleton] at hb'
   rw [hb']; exact h.low a ha m hw ho
  ·intro x hx y hy hy'
   simp only [List.mem_append, List.mem_singleton, not_or] at hx hy'
   rcases hx with hx | hx
   ·exact h.low x hx y hy hy'.1
   ·rw [hx]; exact hb y (waits_mem.1 hy).1 hy hy'.1
  ·rcases h.prog with h' | h'
   ·exact .inl (by simp [h'])
   ·exact absurd (h' m hw) ho
theorem len_of_sub : ∀ {xs ys : List Nat}, xs.Nodup → (∀ x ∈ xs, x ∈ ys) → xs.length ≤ ys.length
 | [], _, _, _ => Nat.zero_le _
 | x :: xs, ys, hn, h => by
  obtain ⟨h1, h2⟩ := List.nodup_cons.1 hn
  have hx := h x (by simp)
  have ih := len_of_sub (xs := xs) (ys := ys.erase x) h2 fun y hy => (List.mem_erase_of_ne (show y ≠ x from fun e => h1 (e ▸ hy))).2 (h y (by simp [hy]))
  rw [List.length_erase_of_mem hx] at ih
  have := List.length_pos_of_mem hx
  simp only [List.length_cons]
  omega
theorem Sel.len {l : List Pay} {bank : Int} {out : List Nat} {j : Nat} (h : Sel l bank out j) : out.length ≤ l.length := Nat.le_trans (len_of_sub h.nodup h.sub) (waits_len l bank)
theorem Sel.is {l : List Pay} {bank : Int} {out : List Nat} (h : Sel l bank out l.length) : IsQueue l bank out := by
 refine ⟨?_, h.sorted⟩
 rw [List.perm_ext_iff_of_nodup h.nodup (waits_nodup l bank)]
 intro a
 refine ⟨h.sub a, fun ha => ?_⟩
 rcases h.prog with h' | h'
 ·refine Classical.byContradiction fun hn => ?_
  have := len_of_sub (xs := a :: out) (ys := waits l bank) (List.nodup_cons.2 ⟨hn, h.nodup⟩) (fun x hx => by
   rcases List.mem_cons.1 hx with rfl | hx
   ·exact ha
   ·exact h.sub x hx)
  have h2 := waits_len l bank
  simp only [List.length_cons] at this
  omega
 ·exact h' a ha
theorem Best.zero (l : List Pay) (bank : Int) (out : List Nat) : Best l bank out 0 (-1) := .inl ⟨rfl, fun k hk => by omega⟩
theorem lt_split {i k : Nat} (h : k < i + 1) : k < i ∨ k = i := by omega
theorem Best.skip {l : List Pay} {bank : Int} {out : List Nat} {i : Nat} {b : Int} (h : Best l bank out i b) (hi : i ∈ waits l bank → i ∈ out) : Best l bank out (i + 1) b := by
 rcases h with ⟨e, h⟩ | ⟨m, e, hm, hw, ho, h⟩
 ·exact .inl ⟨e, fun k hk hk' => (lt_split hk).elim (fun hk => h k hk hk') fun hk => hk ▸ hi (hk ▸ hk')⟩
 ·exact .inr ⟨m, e, by omega, hw, ho, fun k hk hk' hko => (lt_split hk).elim (fun hk => h k hk hk' hko) fun hk => absurd (hi (hk ▸ hk')) (hk ▸ hko)⟩
theorem leB_refl (l : List Pay) (i : Nat) : leB l i i = true := by simp [leB, leP]
theorem Best.new {l : List Pay} {bank : Int} {out : List Nat} {i : Nat} {b : Int} (h : Best l bank out i b) (hb : b < 0) (hw : i ∈ waits l bank) (ho : i ∉ out) : Best l bank out (i + 1) i := by
 rcases h with ⟨e, h⟩ | ⟨m, e, _⟩
 ·exact .inr ⟨i, rfl, by omega, hw, ho, fun k hk hk' hko => (lt_split hk).elim (fun hk => absurd (h k hk hk') hko) fun hk => hk ▸ leB_refl l i⟩
 ·omega
theorem Best.less {l : List Pay} {bank : Int} {out : List Nat} {i m : Nat} (h : Best l bank out i m) (hl : leB l m i = false) (hw : i ∈ waits l bank) (ho : i ∉ out) : Best l bank out (i + 1) i := by
 rcases h with ⟨e, h⟩ | ⟨m', e, hm, hw', ho', h⟩
 ·omega
 ·have e : m = m' := by omega
  subst e
  refine .inr ⟨i, rfl, by omega, hw, ho, fun k hk hk' hko => (lt_split hk).elim (fun hk => ?_) fun hk => hk ▸ leB_refl l i⟩
  have h1 := h k hk hk' hko
  have h2 := leP_total (payAt l m) (payAt l i)
  have h3 : leP (payAt l m) (payAt l i) = false := hl
  rw [h3, Bool.false_or] at h2
  exact leP_trans _ _ _ h2 h1
theorem Best.stay {l : List Pay} {bank : Int} {out : List Nat} {i m : Nat} (h : Best l bank out i m) (hl : leB l m i = true) : Best l bank out (i + 1) m := by
 rcases h with ⟨e, h⟩ | ⟨m', e, hm, hw', ho', h⟩
 ·omega
 ·have e : m = m' := by omega
  subst e
  exact .inr ⟨m, rfl, by omega, hw', ho', fun k hk hk' hko => (lt_split hk).elim (fun hk => h k hk hk' hko) fun hk => hk ▸ hl⟩
theorem Best.at_ {l : List Pay} {bank : Int} {out : List Nat} {i : Nat} {b : Int} (h : Best l bank out i b) (h0 : i ≤ l.length) : (b = -1) ∨ ∃ m : Nat, b = m ∧ m < l.length := by
 rcases h with ⟨e, _⟩ | ⟨m, e, hm, _⟩
 ·exact .inl e
 ·exact .inr ⟨m, e, by omega⟩
theorem alloc_sz (w : World) (o : Obj) : (w.alloc o).heap.size = w.heap.size + 1 := by simp
/-- Indexes as ints. -/
def nats (xs : List Nat) : List Int := xs.map fun x : Nat => (x : Int)
theorem nats_len (xs : List Nat) : (nats xs).length = xs.length := by simp [nats]
/-- What a bank's queue answers. -/
def QPost (l : List Pay) (bank : Int) (w : World) (e : Ending) (w' : World) : Prop := (∃ v xs, e = .returned v ∧ IsQueue l bank xs ∧ OwnInts w' w.heap.size v (nats xs)) ∧ Below w.heap.size w w'
end Go.Proofs.Ytggfdkkhlokmlab

namespace Go.Proofs.Ytggfdkkhlokmlab
open Go.RowKit
/-- The cells of a reply. -/
def rc (c n : Int) (s : Value) : Array Value := #[.int .i64 c, .int .i64 n, s]
theorem rc_0 (c n : Int) (s : Value) : (rc c n s)[0]? = some (.int .i64 c) := rfl
theorem rc_1 (c n : Int) (s : Value) : (rc c n s)[1]? = some (.int .i64 n) := rfl
theorem rc_2 (c n : Int) (s : Value) : (rc c n s)[2]? = some s := rfl
theorem rc_size (c n : Int) (s : Value) : (rc c n s).size = 3 := rfl
attribute [local go_sem] rc_0 rc_1 rc_2 rc_size
set_option maxRecDepth 100000 in
set_option maxHeartbeats 1000000 in
theorem sameReply_eq (c n : Int) (xs : List Nat) (a b : Option Addr) (cap cap' : Nat) (w : World) (ha : IntsAt w a cap (nats xs)) (hb : IntsAt w b cap' (nats xs)) :
  Calls Try.prog 25 #[.agg (rc c n (.slice a xs.length cap)), .agg (rc c n (.slice b xs.length cap'))] w fun e w' => e = .returned (.bool true) ∧ Below w.heap.size w w' := by
 have hgA := heap_alloc2_old w (.cells (rc c n (.slice a xs.length cap)) 44) (.cells (rc c n (.slice b xs.length cap')) 44)
 have hgB := heap_alloc2_new w (.cells (rc c n (.slice a xs.length cap)) 44) (.cells (rc c n (.slice b xs.length cap')) 44)
 have hml : xs.length ≤ 9223372036854775807 := by have h1 := ha.le; have h2 := ha.capm; rw [nats_len] at h1; unfold maxLen at h2; omega
 have hcA := cells_at hgA
 have hcB := cells_at hgB
 go_enter Try.func25, Try.ntmps25
 go_wp2
 clear hcA hcB
 go_loopg [30] xs.length (fun g i wr => ∃ k : Nat, k ≤ xs.length ∧ g = xs.length - k ∧ i = .int .i64 k ∧ wr.heap[w.heap.size]? = some (.cells (rc c n (.slice a xs.length cap)) 44 (0, 0)) ∧ wr.heap[w.heap.size + 1]? = some (.cells (rc c n (.slice b xs.length cap')) 44 (0, 0)) ∧ Below w.heap.size w wr)
 case atStart => exact ⟨0, by omega, rfl, rfl, hgA, hgB, ((Below.refl _ _).alloc (Nat.le_refl _) _).alloc (by simp) _⟩
 case round =>
  clear hgA hgB
  obtain ⟨k, hk, rfl, rfl, hgA, hgB, hbw⟩ := hrel
  by_cases h4 : k < xs.length
  ·obtain ⟨p, hpk⟩ : ∃ p, (nats xs)[k]? = some p := ⟨(nats xs)[k]'(by rw [nats_len]; exact h4), List.getElem?_eq_getElem (by rw [nats_len]; exact h4)⟩
   obtain ⟨b1, o1, rfl, hl1, hc1⟩ := ha.row (by rw [nats_len]; omega)
   obtain ⟨b2, o2, rfl, hl2, hc2⟩ := hb.row (by rw [nats_len]; omega)
   have x0 := (hbw.cell (p := ⟨b1, o1 + k, none⟩) hl1).trans (hc1 k p hpk)
   have y0 := (hbw.cell (p := ⟨b2, o2 + k, none⟩) hl2).trans (hc2 k p hpk)
   have a2 : wr.cell? ⟨w.heap.size, 2, none⟩ = some (.slice (some ⟨b1, o1, none⟩) xs.length cap) := cells_at hgA 2
   have b2' : wr.cell? ⟨w.heap.size + 1, 2, none⟩ = some (.slice (some ⟨b2, o2, none⟩) xs.length cap') := cells_at hgB 2
   have hkl : (k : Int) < (xs.length : Int) := by omega
   have hbn : ∀ q, Below w.heap.size w (wr.drewN q) := fun q => below_drewN hbw q
   have hgAn : ∀ q, (wr.drewN q).heap[w.heap.size]? = some (.cells (rc c n (.slice (some ⟨b1, o1, none⟩) xs.length cap)) 44 (0, 0)) := fun q => hgA
   have hgBn : ∀ q, (wr.drewN q).heap[w.heap.size + 1]? = some (.cells (rc c n (.slice (some ⟨b2, o2, none⟩) xs.length cap')) 44 (0, 0)) := fun q => hgB
   replace hbn := Lib.hid hbn
   replace hgAn := Lib.hid hgAn
   replace hgBn := Lib.hid hgBn
   clear ha hb hpk hc1 hc2 hgA hgB
   go_wp2
   go_big_quiet (fail)
   go_wp2
   go_roundg (xs.length - (k + 1))
   case measure => omega
   case rel => exact ⟨k + 1, by omega, rfl, by go_num, hgAn.out _, hgBn.out _, hbn.out _⟩
  ·have hd : decide ((k : Int) < xs.length) = false := by simp; omega
   go_wp2
   go_ret
   exact ⟨rfl, hbw⟩
end Go.Proofs.Ytggfdkkhlokmlab

namespace Go.Proofs.Ytggfdkkhlokmlab
open Go.RowKit
attribute [local go_sem] hc_pays hc_next hc_size pc_0 pc_1 pc_2 pc_3 pc_4 pc_5
def ClonePost (l : List Pay) (w : World) (e : Ending) (w' : World) : Prop := (∃ v, e = .returned v ∧ OwnPays w' w.heap.size v l) ∧ Below w.heap.size w w'
set_option maxRecDepth 100000 in
set_option maxHeartbeats 1000000 in
theorem clone_some (l : List Pay) (a : Addr) (cap : Nat) (w : World) (hp : PaysAt w (some a) cap l) :
  Calls Try.prog 71 #[.slice (some a) l.length cap] w (ClonePost l w) := by
 have hroom := hp.room
 have hnews : ∀ j u, (flat l)[j]? = some u → w.cell? (a.add j) = some u ∧ (a.add j).block < w.heap.size := by
  rcases Nat.eq_zero_or_pos l.length with h0 | h0
  ·rw [List.length_eq_zero_iff.1 h0]; intro j u hu; simp [flat] at hu
  ·obtain ⟨b, off, e, hbl, _⟩ := hp.row h0
   cases e
   exact fun j u hu => ⟨hp.cells j u hu, by unfold Addr.add; split <;> exact hbl⟩
 replace hnews := Lib.hid hnews
 have hmx : l.length ≤ maxLen := Nat.le_trans hp.le hp.capm
 clear hp
 obtain ⟨i0, z, hi, hz0, hz1, hz2, hz3⟩ := info36z
 have hq := fun w => Lib.run_eql_slice_nil (P := Try.prog) w 27 70 (some a) l.length cap 0 0 Try.underlying27
 go_enter Try.func71, Try.ntmps71
 go_wp2_with (at_builtin; refine wpList_append_own _ rfl _ _ 27 rfl w.heap.size 70 i0 z 6 48 Try.underlying27 hi hz0 hz1 hz2 hz3 (by decide) (.slice (some ⟨w.heap.size, 0, none⟩) 0 0) 0 [] rfl ⟨rfl, .inr ⟨w.heap.size, 0, #[], rfl, Nat.le_refl _, hnew w _, Nat.le_refl _, Nat.zero_le _, rfl, rfl⟩⟩ a l.length cap (flat l) rfl (flat_length l) ?c1 (flat_one l) ?c3 ?c4 ?c5 ?_)
 case c1 =>
  intro j u hu
  obtain ⟨h1, h2⟩ := hnews.out j u hu
  rw [← h1]
  exact ((Below.refl w.heap.size _).alloc (Nat.le_refl _) _).cell h2
 case c3 => simpa using hmx
 case c4 => simpa using hroom
 case c5 => simp
 intro v' w1 hown hgr _
 have hO : OwnPays w1 w.heap.size v' l := ⟨by simpa using hown, hroom⟩
 have hB : Below w.heap.size w w1 := ((Below.refl w.heap.size _).alloc (Nat.le_refl _) _).grown hgr (by simp) (fun k hk => by simp [Value.ownBlock] at hk; omega)
 replace hown := Lib.hid hown
 clear hgr
 go_wp2
 go_ret
 exact ⟨⟨_, rfl, hO⟩, hB⟩
set_option maxRecDepth 100000 in
set_option maxHeartbeats 1000000 in
theorem clone_nil (w : World) : Calls Try.prog 71 #[.slice none 0 0] w (ClonePost [] w) := by
 have hq := fun w => Lib.run_eql_slice_nil (P := Try.prog) w 27 70 none 0 0 0 0 Try.underlying27
 go_enter Try.func71, Try.ntmps71
 go_wp2
 go_ret
 exact ⟨⟨_, rfl, ⟨rfl, .inl ⟨rfl, rfl⟩⟩, by simp⟩, Below.refl _ _⟩
theorem clone_any (l : List Pay) (a : Option Addr) (cap : Nat) (w : World) (hp : PaysAt w a cap l) : Calls Try.prog 71 #[.slice a l.length cap] w (ClonePost l w) := by
 cases a with
 | some a => exact clone_some l a cap w hp
 | none =>
  have hc0 := hp.nil0 rfl
  have hl0 : l = [] := List.length_eq_zero_iff.1 (by have := hp.le; omega)
  subst hl0
  subst hc0
  exact clone_nil w
/-- One field of one payment in a row is overwritten. -/
theorem row_set {cur : Array Value} {l : List Pay} {i f : Nat} {q : Pay} {u : Value} (hcur : ∀ j p, l[j]? = some p → ∀ k v, (pc p)[k]? = some v → cur[j * 6 + k]? = some v) (hi : i < l.length) (hf : f < 6)
  (hq : ∀ k v, (pc q)[k]? = some v → (k = f ∧ v = u) ∨ (k ≠ f ∧ (pc (payAt l i))[k]? = some v)) :
  ∀ j p, (l.set i q)[j]? = some p → ∀ k v, (pc p)[k]? = some v → (cur.setIfInBounds (i * 6 + f) u)[j * 6 + k]? = some v := by
 intro j p hj k v hk
 have hk6 : k < 6 := (Array.getElem?_eq_some_iff.1 hk).1
 by_cases e : i = j
 ·subst e
  rw [List.getElem?_set_self hi] at hj
  cases hj
  rcases hq k v hk with ⟨rfl, rfl⟩ | ⟨hne, h2⟩
  ·have h3 : (pc (payAt l i))[k]? = some ((pc (payAt l i))[k]'hk6) := Array.getElem?_eq_getElem hk6
   have h4 := hcur i _ (payAt_get hi) k _ h3
   have h5 := (Array.getElem?_eq_some_iff.1 h4).1
   simp [h5]
  ·rw [Array.getElem?_setIfInBounds_ne (by omega)]
   exact hcur i _ (payAt_get hi) k v h2
 ·rw [List.getElem?_set_ne e] at hj
  rw [Array.getElem?_setIfInBounds_ne (by omega)]
  exact hcur j p hj k v hk
theorem OwnPays.row {w : World} {base : Nat} {v : Value} {l : List Pay} (h : OwnPays w base v l) (hl : 0 < l.length) : ∃ g cap cur, v = .slice (some ⟨g, 0, none⟩) l.length cap ∧ base ≤ g ∧ w.heap[g]? = some (.cells cur 70 (0, 0)) ∧ l.length ≤ cap ∧ cap ≤ maxLen ∧ cur.size = cap * 6 ∧ ∀ j p, l[j]? = some p → ∀ k v, (pc p)[k]? = some v → cur[j * 6 + k]? = some v := by
 obtain ⟨⟨hlen, hv⟩, hroom⟩ := h
 rcases hv with ⟨rfl, h0⟩ | ⟨g, cap, cur, rfl, hb, hg, hn, hc, hsz, htake⟩
 ·omega
 ·refine ⟨g, cap, cur, rfl, hb, hg, hn, hc, hsz, fun j p hp k v hv => ?_⟩
  have h1 := flat_get l j p hp k v hv
  have hj := (List.getElem?_eq_some_iff.1 hp).1
  have hk : k < 6 := (Array.getElem?_eq_some_iff.1 hv).1
  rw [← htake, List.getElem?_take_of_lt (by omega)] at h1
  simpa using h1
theorem PaysAt.of_row {w : World} {g cap : Nat} {cur : Array Value} {l : List Pay} (hg : w.heap[g]? = some (.cells cur 70 (0, 0))) (hn : l.length ≤ cap) (hc : cap ≤ maxLen) (hr : l.length * 48 ≤ 140737488355328) (hcur : ∀ j p, l[j]? = some p → ∀ k v, (pc p)[k]? = some v → cur[j * 6 + k]? = some v) : PaysAt w (some ⟨g, 0, none⟩) cap l :=
 ⟨hn, hc, hr, by simp, fun _ => ⟨g, 0, rfl, hlt hg, fun i p hp j v hv => by rw [Nat.zero_add, cells_at hg]; exact hcur i p hp j v hv⟩⟩
/-- A house by value behind a settling: its payments lie in a block of the call's own. -/
def SettlePost (h : Hs) (l : List Pay) (w : World) (e : Ending) (w' : World) : Prop := (∃ a cap, e = .returned (.agg (hc h (.slice a l.length cap))) ∧ PaysAt w' a cap l ∧ ∀ b off s, a = some ⟨b, off, s⟩ → w.heap.size ≤ b) ∧ Below w.heap.size w w'
set_option maxRecDepth 100000 in
set_option maxHeartbeats 4000000 in
theorem settle_yes (h : Hs) (l : List Pay) (a : Option Addr) (cap i : Nat) (w : World) (hp : PaysAt w a cap l) (hr : h.Room) (hi : i < l.length) (h1 : (payAt l i).st = 1) :
  Calls Try.prog 68 #[.agg (hc h (.slice a l.length cap)), .int .i64 i] w (SettlePost (h.move (payAt l i).frm (payAt l i).to (payAt l i).amt) (settled l i) w) := by
 have hpi := payAt_get hi
 have hset : settled l i = l.set i (payAt l i).done := rfl
 have hsl := settled_len l i
 rw [hset] at hsl ⊢
 have hfin := fun cur => row_set (cur := cur) (l := l) (i := i) (f := 4) (q := (payAt l i).done) (u := .int .i64 2)
 have hq : ∀ k v, (pc (payAt l i).done)[k]? = some v → (k = 4 ∧ v = .int .i64 2) ∨ (k ≠ 4 ∧ (pc (payAt l i))[k]? = some v) := by
  intro k v hv
  have hk : k < 6 := (Array.getElem?_eq_some_iff.1 hv).1
  rcases k with _ | _ | _ | _ | _ | _ | k
  ·exact .inr ⟨by omega, hv⟩
  ·exact .inr ⟨by omega, hv⟩
  ·exact .inr ⟨by omega, hv⟩
  ·exact .inr ⟨by omega, hv⟩
  ·left; exact ⟨rfl, by simpa [pc, Pay.done] using hv.symm⟩
  ·exact .inr ⟨by omega, hv⟩
  ·omega
 obtain ⟨p, ep⟩ : ∃ p, payAt l i = p := ⟨_, rfl⟩
 rw [ep] at hpi h1 hq ⊢
 rw [ep] at hfin hsl
 have hml : (l.length : Int) ≤ 9223372036854775807 := by have h1 := hp.le; have h2 := hp.capm; unfold maxLen at h2; omega
 have hii : (i : Int) < (l.length : Int) := by omega
 have hl0 : 0 < l.length := by omega
 have hroom := hp.room
 have hone : (Value.slice a l.length cap).oneCell' = true := rfl
 replace ep := Lib.hid ep
 replace hset := Lib.hid hset
 replace hsl := Lib.hid hsl
 replace hfin := Lib.hid hfin
 replace hq := Lib.hid hq
 replace hpi := Lib.hid hpi
 replace hp := Lib.hid hp
 go_enter Try.func68, Try.ntmps68
 go_upto_region 1 with fail
 generalize hW : World.alloc (World.alloc w _) _ = W0
 have hgA : W0.heap[w.heap.size]? = some (.cells (hc h (.slice a l.length cap)) 29 (0, 0)) := by rw [← hW]; exact heap_alloc2_old w _ _
 have hgZ : W0.heap[w.heap.size + 1]? = some (.cells (hc Hs.zero (.slice none 0 0)) 29 (0, 0)) := by rw [← hW]; exact heap_alloc2_new w _ _
 have hB : Below w.heap.size w W0 := by rw [← hW]; exact ((Below.refl w.heap.size w).alloc (Nat.le_refl _) _).alloc (by simp) _
 have hp0 := hp.out.below hB
 clear hW
 obtain ⟨b, o, rfl, hbl, hc0⟩ := hp0.row hl0
 obtain ⟨x0, x1, x2, x3, x4, x5⟩ := hp0.six hpi.out
 have hcp : ∀ j v, (pc p)[j]? = some v → W0.cell? ⟨b, o + i * 6 + j, none⟩ = some v := fun j v hv => by rw [Nat.add_assoc]; exact hc0 i p hpi.out j v hv
 rw [h1] at x4
 replace hcp := Lib.hid hcp
 have hcl := cells_at hgA
 clear hc0 x0 x1 x2 x3 x5
 go_upto_region 4 with (first | go_skip | (refine ld_cells 70 _ rfl rfl b (o + i * 6) rfl (pc p) _ Try.underlying70 rfl info36 hcp.out ?_) | (refine st_new 70 _ _ rfl W0 70 _ rfl rfl rfl _ rfl info36 rfl (pc_one p) ?_))
 clear hcl x4
 have hP := cells_at (hnew W0 (.cells (pc p) 70))
 go_upto_region 5 with (first | go_skip | (refine ld_row 29 _ rfl rfl _ rfl _ _ _ _ (hold hgA _) Try.underlying29 rfl info30 ?_) | (go_at_call 70; refine (move_any h _ p.frm p.to p.amt _ hr hone).mono ?_; rintro e w1 ⟨rfl, hb1⟩) | (refine st_row 29 _ _ rfl rfl _ rfl _ rfl _ _ (hkeep hb1 (hold hgA _)) info30 rfl (hc_one _ _ rfl) ?_; intro w2 hgA2 hgr hsz))
 simp only [Act.put]
 obtain ⟨h', hh'⟩ : ∃ h', h.move p.frm p.to p.amt = h' := ⟨_, rfl⟩
 rw [hh'] at hgA2 ⊢
 replace hh' := Lib.hid hh'
 clear hP
 have hZ1 : w1.heap[w.heap.size + 1]? = some (.cells (hc Hs.zero (.slice none 0 0)) 29 (0, 0)) := hkeep hb1 (hold hgZ _)
 have hZ2 : w2.heap[w.heap.size + 1]? = some (.cells (hc Hs.zero (.slice none 0 0)) 29 (0, 0)) := (hgr.block _ (hlt hZ1) (by simp)).trans hZ1
 have hB0 := hB.alloc hB.size (.cells (pc p) 70)
 have hB1 : Below w.heap.size w w1 := hB0.trans (hb1.mono hB0.size)
 have hB2 : Below w.heap.size w w2 := hB1.grown hgr hB1.size (fun k hk => by cases hk; exact Nat.le_refl _)
 have hp2 := hp.out.below hB2
 clear hZ1 hB0 hB1 hgr hsz hb1 hgA hgZ hp0 hB
 have hcl := cells_at hgA2
 go_upto_region 6 with (first | go_skip | (go_at_call 71; refine (clone_any l _ cap _ hp2).mono ?_; rintro e w3 ⟨⟨v, rfl, hown⟩, hb3⟩; obtain ⟨g, cap', cur, rfl, hgg, hcur, hcn, hcm, hcz, hcr⟩ := hown.row hl0; have hcl3 := cells_at (hkeep hb3 hgA2); have hfr3 := frozenAt (hkeep hb3 hgA2)))
 have hA3 := hkeep hb3 hgA2
 have hZ3 := hkeep hb3 hZ2
 have hlA : w.heap.size < w2.heap.size := hlt hgA2
 have hlZ : w.heap.size + 1 < w2.heap.size := hlt hZ2
 have hB3 : Below w.heap.size w w3 := hB2.trans (hb3.mono hB2.size)
 have hgA' : g ≠ w.heap.size := by omega
 have hci : i * 6 + 4 < cur.size := by rw [hcz]; omega
 have hcg : w3.cell? ⟨g, i * 6 + 4, none⟩ = some (.int .i64 1) := by
  rw [cells_at hcur, hcr i p hpi.out 4 _ (pc_4 p), h1]
 have hfg : w3.frozen? ⟨g, i * 6 + 4, none⟩ = false := frozenAt hcur _
 have hAs := hsetOther (hsetSame (i := 40) hA3 (.slice (some ⟨g, 0, none⟩) l.length cap')) (g := g) (i := i * 6 + 4) (Ne.symm hgA') (.int .i64 2)
 have hZs := hsetOther (g := g) (i := i * 6 + 4) (hsetOther (g := w.heap.size) (i := 40) hZ3 (by omega) (.slice (some ⟨g, 0, none⟩) l.length cap')) (by omega) (.int .i64 2)
 have hGs := hsetSame (i := i * 6 + 4) (hsetOther (g := w.heap.size) (i := 40) hcur hgA' (.slice (some ⟨g, 0, none⟩) l.length cap')) (.int .i64 2)
 rw [hc_setPays] at hAs
 replace hAs := Lib.hid hAs
 replace hZs := Lib.hid hZs
 replace hGs := Lib.hid hGs
 replace hcr := Lib.hid hcr
 replace hcz := Lib.hid hcz
 replace hcur := Lib.hid hcur
 replace hA3 := Lib.hid hA3
 replace hZ3 := Lib.hid hZ3
 replace hgA2 := Lib.hid hgA2
 replace hZ2 := Lib.hid hZ2
 clear hcl
 go_wp2_with (first | go_skip | (refine ld_row 29 _ rfl rfl _ rfl _ _ _ _ hAs.out Try.underlying29 rfl info30 ?_) | (refine st_row 29 _ _ rfl rfl _ rfl _ rfl _ _ hZs.out info30 rfl (hc_one _ _ rfl) ?_; intro w5 hr5 hgr5 hsz5))
 have hG5 := (hgr5.block _ (hlt hGs.out) (by simp; omega)).trans hGs.out
 have hcur2 := hfin.out cur hcr.out hi (by omega) hq.out
 have hB4 := (hB3.setCell (p := ⟨w.heap.size, 40, none⟩) (Nat.le_refl _) (.slice (some ⟨g, 0, none⟩) l.length cap')).setCell (p := ⟨g, i * 6 + 4, none⟩) (by show w.heap.size ≤ g; omega) (.int .i64 2)
 refine bodyPost_ret (results_house rfl _ _ _ _ _ rfl hr5) rfl ⟨⟨some ⟨g, 0, none⟩, cap', by rw [hsl.out, hh'.out], PaysAt.of_row hG5 (by rw [hsl.out]; exact hcn) hcm (by rw [hsl.out]; exact hroom) hcur2, fun b off s e => by cases e; omega⟩, ?_⟩
 exact hB4.grown hgr5 hB4.size fun k hk => by cases hk; omega
end Go.Proofs.Ytggfdkkhlokmlab

namespace Go.Proofs.Ytggfdkkhlokmlab
open Go.RowKit
attribute [local go_sem] hc_pays hc_next hc_size pc_0 pc_1 pc_2 pc_3 pc_4 pc_5
end Go.Proofs.Ytggfdkkhlokmlab

namespace Go.Proofs.Ytggfdkkhlokmlab
open Go.RowKit
attribute [local go_sem] hc_pays hc_next hc_size pc_0 pc_1 pc_2 pc_3 pc_4 pc_5
set_option maxRecDepth 100000 in
set_option maxHeartbeats 4000000 in
theorem settlePay_yes (h : Hs) (l : List Pay) (a : Option Addr) (cap i : Nat) (w : World) (hp : PaysAt w a cap l) (hr : h.Room) (hi : i < l.length) (h1 : (payAt l i).st = 1) :
  Calls Try.prog 83 #[.agg (hc h (.slice a l.length cap)), .int .i64 i] w (SettlePost (h.move (payAt l i).frm (payAt l i).to (payAt l i).amt) (settled l i) w) := by
 have hpi := payAt_get hi
 have hset : settled l i = l.set i (payAt l i).done := rfl
 have hsl := settled_len l i
 rw [hset] at hsl ⊢
 have hfin := fun cur => row_set (cur := cur) (l := l) (i := i) (f := 4) (q := (payAt l i).done) (u := .int .i64 2)
 have hq : ∀ k v, (pc (payAt l i).done)[k]? = some v → (k = 4 ∧ v = .int .i64 2) ∨ (k ≠ 4 ∧ (pc (payAt l i))[k]? = some v) := by
  intro k v hv
  have hk : k < 6 := (Array.getElem?_eq_some_iff.1 hv).1
  rcases k with _ | _ | _ | _ | _ | _ | k
  ·exact .inr ⟨by omega, hv⟩
  ·exact .inr ⟨by omega, hv⟩
  ·exact .inr ⟨by omega, hv⟩
  ·exact .inr ⟨by omega, hv⟩
  ·left; exact ⟨rfl, by simpa [pc, Pay.done] using hv.symm⟩
  ·exact .inr ⟨by omega, hv⟩
  ·omega
 obtain ⟨p, ep⟩ : ∃ p, payAt l i = p := ⟨_, rfl⟩
 rw [ep] at hpi h1 hq ⊢
 rw [ep] at hfin hsl
 have hml : (l.length : Int) ≤ 9223372036854775807 := by have h1 := hp.le; have h2 := hp.capm; unfold maxLen at h2; omega
 have hii : (i : Int) < (l.length : Int) := by omega
 have hl0 : 0 < l.length := by omega
 have hroom := hp.room
 have hone : (Value.slice a l.length cap).oneCell' = true := rfl
 replace ep := Lib.hid ep
 replace hset := Lib.hid hset
 replace hsl := Lib.hid hsl
 replace hfin := Lib.hid hfin
 replace hq := Lib.hid hq
 replace hpi := Lib.hid hpi
 replace hp := Lib.hid hp
 have hsm : sm 0 (i : Int) ((l.length : Int) - 1) = true := sm_yes (by omega)
 go_enter Try.func83, Try.ntmps83
 go_upto_region 1 with fail
 generalize hW : World.alloc (World.alloc w _) _ = W0
 have hgA : W0.heap[w.heap.size]? = some (.cells (hc h (.slice a l.length cap)) 29 (0, 0)) := by rw [← hW]; exact heap_alloc2_old w _ _
 have hgZ : W0.heap[w.heap.size + 1]? = some (.cells (hc Hs.zero (.slice none 0 0)) 29 (0, 0)) := by rw [← hW]; exact heap_alloc2_new w _ _
 have hB : Below w.heap.size w W0 := by rw [← hW]; exact ((Below.refl w.heap.size w).alloc (Nat.le_refl _) _).alloc (by simp) _
 have hp0 := hp.out.below hB
 clear hW
 obtain ⟨b, o, rfl, hbl, hc0⟩ := hp0.row hl0
 obtain ⟨x0, x1, x2, x3, x4, x5⟩ := hp0.six hpi.out
 rw [h1] at x4
 have hcl := cells_at hgA
 clear hc0 x0 x1 x2 x3 x5
 go_upto_region 3 with (first | go_skip | (go_at_call 59; refine (within_any _ _ _ _).mono ?_; rintro e w' ⟨rfl, rfl⟩; rw [hsm]))
 clear hcl x4
 go_upto_region 4 with (first | go_skip | (refine ld_row 29 _ rfl rfl _ rfl _ _ _ _ hgA Try.underlying29 rfl info30 ?_) | (go_at_call 33; refine (copyHouse_any h l _ cap _ hp0).mono ?_; rintro e w1 ⟨⟨v, rfl, hown⟩, hb1⟩; obtain ⟨g, cap', cur, rfl, hgg, hcur, hcn, hcm, hcz, hcr⟩ := hown.row hl0) | (refine st_row 29 _ _ rfl rfl _ rfl _ rfl _ _ (hkeep hb1 hgA) info30 rfl (hc_one _ _ rfl) ?_; intro w2 hgA2 hgr hsz))
 simp only [Act.put]
 have hlA : w.heap.size < W0.heap.size := hlt hgA
 have hlZ : w.heap.size + 1 < W0.heap.size := hlt hgZ
 have hgA' : g ≠ w.heap.size := by omega
 have hZ1 : w1.heap[w.heap.size + 1]? = some (.cells (hc Hs.zero (.slice none 0 0)) 29 (0, 0)) := hkeep hb1 hgZ
 have hZ2 : w2.heap[w.heap.size + 1]? = some (.cells (hc Hs.zero (.slice none 0 0)) 29 (0, 0)) := (hgr.block _ (hlt hZ1) (by simp)).trans hZ1
 have hG2 := (hgr.block _ (hlt hcur) (by simp; omega)).trans hcur
 have hB1 : Below w.heap.size w w1 := hB.trans (hb1.mono hB.size)
 have hB2 : Below w.heap.size w w2 := hB1.grown hgr hB1.size (fun k hk => by cases hk; exact Nat.le_refl _)
 have hcl := cells_at hgA2
 have hcp2 : ∀ j v, (pc p)[j]? = some v → w2.cell? ⟨g, i * 6 + j, none⟩ = some v := fun j v hv => by rw [cells_at hG2]; exact hcr i p hpi.out j v hv
 have hci : i * 6 + 4 < cur.size := by rw [hcz]; omega
 have hlg := hlt hG2
 have hcg : (w2.alloc (.cells (pc p) 70)).cell? ⟨g, i * 6 + 4, none⟩ = some (.int .i64 1) := by
  rw [cells_at (hold hG2 _), hcr i p hpi.out 4 _ (pc_4 p), h1]
 have hfg : (w2.alloc (.cells (pc p) 70)).frozen? ⟨g, i * 6 + 4, none⟩ = false := frozenAt (hold hG2 _) _
 have hcl2 := cells_at (hold hgA2 (.cells (pc p) 70))
 have hAs := hold (hsetOther hgA2 (g := g) (i := i * 6 + 4) (Ne.symm hgA') (.int .i64 2)) (.cells (pc p) 70)
 have hZs := hold (hsetOther (g := g) (i := i * 6 + 4) hZ2 (by omega) (.int .i64 2)) (.cells (pc p) 70)
 have hGs := hold (hsetSame (i := i * 6 + 4) hG2 (.int .i64 2)) (.cells (pc p) 70)
 have eS : (w2.setCell ⟨g, i * 6 + 4, none⟩ (.int .i64 2)).heap.size = w2.heap.size := by simp [World.setCell]
 have hPs := hnew (w2.setCell ⟨g, i * 6 + 4, none⟩ (.int .i64 2)) (.cells (pc p) 70)
 rw [eS] at hPs
 have hclp := cells_at hPs
 have hB2' := hB2.setCell (p := ⟨g, i * 6 + 4, none⟩) (by show w.heap.size ≤ g; omega) (.int .i64 2)
 have hB3 := hB2'.alloc hB2'.size (.cells (pc p) 70)
 replace eS := Lib.hid eS
 replace hsz := Lib.hid hsz
 replace hcp2 := Lib.hid hcp2
 replace hAs := Lib.hid hAs
 replace hZs := Lib.hid hZs
 replace hGs := Lib.hid hGs
 replace hPs := Lib.hid hPs
 replace hG2 := Lib.hid hG2
 replace hZ2 := Lib.hid hZ2
 replace hgA2 := Lib.hid hgA2
 replace hcr := Lib.hid hcr
 replace hcz := Lib.hid hcz
 replace hcur := Lib.hid hcur
 clear hZ1 hgA hgZ hB hB1 hown hgr hp0
 go_wp2_with (first | go_skip | (refine ld_cells 70 _ rfl rfl g (i * 6) rfl (pc p) _ Try.underlying70 rfl info36 hcp2.out ?_) | (refine st_new 70 _ _ rfl w2 70 _ rfl rfl rfl _ rfl info36 rfl (pc_one p) ?_) | (refine ld_row 29 _ rfl rfl _ rfl _ _ _ _ hAs.out Try.underlying29 rfl info30 ?_) | (go_at_call 91; refine (moveSum_any h _ p.frm p.to p.amt _ hr rfl).mono ?_; rintro e w4 ⟨rfl, hb4⟩) | (refine st_row 29 _ _ rfl rfl _ rfl _ rfl _ _ (hkeep hb4 hZs.out) info30 rfl (hc_one _ _ rfl) ?_; intro w5 hr5 hgr5 hsz5))
 have hG4 := hkeep hb4 hGs.out
 have hG5 := (hgr5.block _ (hlt hG4) (by simp; omega)).trans hG4
 have hcur2 := hfin.out cur hcr.out hi (by omega) hq.out
 have hB4 : Below w.heap.size w w4 := hB3.trans (hb4.mono hB3.size)
 refine bodyPost_ret (results_house rfl _ _ _ _ _ rfl hr5) rfl ⟨⟨some ⟨g, 0, none⟩, cap', by rw [hsl.out], PaysAt.of_row hG5 (by rw [hsl.out]; exact hcn) hcm (by rw [hsl.out]; exact hroom) hcur2, fun b off s e => by cases e; omega⟩, ?_⟩
 exact hB4.grown hgr5 hB4.size fun k hk => by cases hk; omega
end Go.Proofs.Ytggfdkkhlokmlab

namespace Go.Proofs.Ytggfdkkhlokmlab
open Go.RowKit
attribute [local go_sem] hc_pays pc_0 pc_1 pc_2 pc_3 pc_4 pc_5
theorem nats_mem {x : Nat} {xs : List Nat} : (x : Int) ∈ nats xs ↔ x ∈ xs := by
 simp only [nats, List.mem_map]
 exact ⟨fun ⟨y, hy, e⟩ => (show y = x by omega) ▸ hy, fun h => ⟨x, h, rfl⟩⟩
theorem nats_snoc (xs : List Nat) (x : Nat) : nats (xs ++ [x]) = nats xs ++ [(x : Int)] := by simp [nats]
theorem OwnInts.grownO {w w' : World} {base : Nat} {v : Value} {l : List Int} {g : Nat} (h : OwnInts w base v l) (hg : w.grownBy w' (some g)) (hne : g < base) : OwnInts w' base v l := by
 obtain ⟨⟨hlen, hv⟩, hroom⟩ := h
 refine ⟨⟨hlen, ?_⟩, hroom⟩
 rcases hv with h0 | ⟨g', cap, cur, rfl, hb', hg', hrest⟩
 ·exact .inl h0
 ·exact .inr ⟨g', cap, cur, rfl, hb', (hg.block _ (hlt hg') (by simp; omega)).trans hg', hrest⟩
set_option maxRecDepth 100000 in
set_option maxHeartbeats 4000000 in
theorem queueOf_any (h : Hs) (l : List Pay) (a : Option Addr) (cap : Nat) (bank : Int) (w : World) (hp : PaysAt w a cap l) :
  Calls Try.prog 82 #[.agg (hc h (.slice a l.length cap)), .int .i64 bank] w (QPost l bank w) := by
 have hroom := hp.room
 have hml : (l.length : Int) ≤ 9223372036854775807 := by have h1 := hp.le; have h2 := hp.capm; unfold maxLen at h2; omega
 obtain ⟨i0, z, hi, hz0, hz1, hz2, hz3⟩ := info3z
 have hmm := @run_makeMap Try.prog
 go_enter Try.func82, Try.ntmps82
 go_wp2
 have hH0 := hnew w (.cells (hc h (.slice a l.length cap)) 29)
 have hB0 := (Below.refl w.heap.size w).alloc (Nat.le_refl _) (.cells (hc h (.slice a l.length cap)) 29)
 go_loopg [5, 14] l.length (fun g s5 s14 wr => ∃ (j : Nat) (out : List Nat), j ≤ l.length ∧ g = l.length - j ∧ s14 = .int .i64 j ∧ Sel l bank out j ∧ OwnInts wr (w.heap.size + 2) s5 (nats out) ∧ wr.heap[w.heap.size]? = some (.cells (hc h (.slice a l.length cap)) 29 (0, 0)) ∧ SeenAt wr (w.heap.size + 1) (nats out) ∧ Below w.heap.size w wr)
 case atStart =>
  refine ⟨0, [], by omega, rfl, rfl, Sel.zero l bank, OwnInts.nil _ _, hold hH0 _, ?_, hB0.alloc hB0.size _⟩
  have := SeenAt.made (w.alloc (.cells (hc h (.slice a l.length cap)) 29))
  rw [alloc_sz] at this
  exact this
 case round =>
  clear hH0 hB0
  obtain ⟨j, out, hj, rfl, rfl, hsel, hown, hg, hsn, hb⟩ := hrel
  have hsz := hb.size
  have hcl := cells_at hg
  have hbx := hsn.lt
  obtain ⟨wo, rfl⟩ : ∃ wo : World, wo = wr := ⟨_, rfl⟩
  have hol := hsel.len
  replace hsel := Lib.hid hsel
  replace hown := Lib.hid hown
  by_cases h1 : j < l.length
  ·obtain ⟨b, o, rfl, hbl, hc0⟩ := hp.row (by omega)
   go_wp2_with fail
   clear hcl
   go_loopg [7, 19] l.length (fun g s7 s19 wx => ∃ (i : Nat) (bb : Int), i ≤ l.length ∧ g = l.length - i ∧ s7 = .int .i64 bb ∧ s19 = .int .i64 i ∧ Best l bank out i bb ∧ Below wo.heap.size wo wx)
   case atStart => exact ⟨0, -1, by omega, rfl, rfl, rfl, Best.zero l bank out, Below.refl _ _⟩
   case round =>
    obtain ⟨i, bb, hi2, rfl, rfl, rfl, hbest, hbw⟩ := hrel
    have hgx := hkeep hbw hg
    have hclx := cells_at hgx
    have hsx := hsn.below hbw
    have hbx2 := hb.trans (hbw.mono hsz)
    by_cases h2 : i < l.length
    ·have hpx := payAt_get h2
     obtain ⟨p, ep⟩ : ∃ p, payAt l i = p := ⟨_, rfl⟩
     rw [ep] at hpx
     have hcp : ∀ j v, (pc p)[j]? = some v → wr.cell? ⟨b, o + i * 6 + j, none⟩ = some v := fun j v hv => by rw [Nat.add_assoc]; exact (hbx2.cell (p := ⟨b, _, none⟩) hbl).trans (hc0 i p hpx j v hv)
     have hs2 := hsx.below ((Below.refl _ _).alloc (Nat.le_refl _) (.cells (pc p) 70))
     have hlook := hs2.look Try.underlying74 Try.underlying3 Try.underlying4 zb (i : Int)
     have hwi : i ∈ waits l bank ↔ p.st = 1 ∧ p.frm = bank := by rw [waits_mem, ep]; exact ⟨fun h => h.2, fun h => ⟨h2, h⟩⟩
     have hcq := cells_at (hnew wr (.cells (pc p) 70))
     have hgy := hold hgx (.cells (pc p) 70)
     have hcly := cells_at hgy
     have hbw2 := hbw.alloc hbw.size (.cells (pc p) 70)
     replace hcp := Lib.hid hcp
     replace ep := Lib.hid ep
     replace hpx := Lib.hid hpx
     replace hwi := Lib.hid hwi
     replace hbest := Lib.hid hbest
     by_cases h3 : p.st = 1
     ·by_cases h4 : p.frm = bank
      ·by_cases h5 : i ∈ out
       ·have hd5 : decide ((i : Int) ∈ nats out) = true := by simp [nats_mem, h5]
        rw [hd5] at hlook
        go_wp2_with (first | go_skip | (refine ld_cells 70 _ rfl rfl b (o + i * 6) rfl (pc p) _ Try.underlying70 rfl info36 hcp.out ?_) | (refine st_new 70 _ _ rfl _ 70 _ rfl rfl rfl _ rfl info36 rfl (pc_one p) ?_))
        go_roundg (l.length - (i + 1))
        case measure => omega
        case rel => exact ⟨i + 1, bb, by omega, rfl, rfl, by go_num, hbest.out.skip fun _ => h5, hbw2⟩
       ·have hd5 : decide ((i : Int) ∈ nats out) = false := by simp [nats_mem, h5]
        rw [hd5] at hlook
        have hwi2 := hwi.out.2 ⟨h3, h4⟩
        have hm := hbest.out.at_ hi2
        have hbn : ∀ n, Below wo.heap.size wo ((wr.alloc (.cells (pc p) 70)).drewN n) := fun n => below_drewN hbw2 n
        replace hbn := Lib.hid hbn
        rcases hm with rfl | ⟨m, rfl, hm⟩
        ·have hnew := hbest.out.new (by omega) hwi2 h5
         replace hnew := Lib.hid hnew
         replace hwi2 := Lib.hid hwi2
         replace h5 := Lib.hid h5
         go_upto_region 10 with (first | go_skip | (refine ld_cells 70 _ rfl rfl b (o + i * 6) rfl (pc p) _ Try.underlying70 rfl info36 hcp.out ?_) | (refine st_new 70 _ _ rfl _ 70 _ rfl rfl rfl _ rfl info36 rfl (pc_one p) ?_))
         go_big_quiet (fail)
         go_wp2_with fail
         go_roundg (l.length - (i + 1))
         case measure => omega
         case rel => exact ⟨i + 1, i, by omega, rfl, rfl, by go_num, hnew.out, hbn.out _⟩
        ·have hpm := payAt_get hm
         have hle : leB l m i = leP (payAt l m) (payAt l i) := rfl
         obtain ⟨q, eq⟩ : ∃ q, payAt l m = q := ⟨_, rfl⟩
         rw [eq] at hpm hle
         rw [ep.out] at hle
         have hp2 : PaysAt (wr.alloc (.cells (pc p) 70)) (some ⟨b, o, none⟩) cap l := (hp.below hbx2).alloc _
         obtain ⟨y0, y1, y2, y3, y4, y5⟩ := hp2.six hpm
         clear y0 y1 y2 y4 hp2
         have hml2 : (m : Int) < (l.length : Int) := by omega
         have hm0 : decide ((m : Int) < 0) = false := decide_eq_false (by omega)
         replace eq := Lib.hid eq
         replace hpm := Lib.hid hpm
         replace hle := Lib.hid hle
         by_cases c1 : p.cls < q.cls
         ·have c1d : decide (p.cls < q.cls) = true := decide_eq_true c1
          have hnew := hbest.out.less (by rw [hle.out]; simp only [leP, Bool.or_eq_false_iff, Bool.and_eq_false_iff, decide_eq_false_iff_not, beq_eq_false_iff_ne]; omega) hwi2 h5
          replace hnew := Lib.hid hnew
          replace hwi2 := Lib.hid hwi2
          replace h5 := Lib.hid h5
          go_upto_region 10 with (first | go_skip | (refine ld_cells 70 _ rfl rfl b (o + i * 6) rfl (pc p) _ Try.underlying70 rfl info36 hcp.out ?_) | (refine st_new 70 _ _ rfl _ 70 _ rfl rfl rfl _ rfl info36 rfl (pc_one p) ?_))
          go_big_quiet (fail)
          go_wp2_with fail
          go_roundg (l.length - (i + 1))
          case measure => omega
          case rel => exact ⟨i + 1, i, by omega, rfl, rfl, by go_num, hnew.out, hbn.out _⟩
         ·have c1d : decide (p.cls < q.cls) = false := decide_eq_false c1
          by_cases c2 : p.cls = q.cls
          ·have c2d : (p.cls == q.cls) = true := by simpa using c2
           by_cases c3 : p.seq < q.seq
           ·have c3d : decide (p.seq < q.seq) = true := decide_eq_true c3
            have hnew := hbest.out.less (by rw [hle.out]; simp only [leP, Bool.or_eq_false_iff, Bool.and_eq_false_iff, decide_eq_false_iff_not, beq_eq_false_iff_ne]; omega) hwi2 h5
            replace hnew := Lib.hid hnew
            replace hwi2 := Lib.hid hwi2
            replace h5 := Lib.hid h5
            go_upto_region 10 with (first | go_skip | (refine ld_cells 70 _ rfl rfl b (o + i * 6) rfl (pc p) _ Try.underlying70 rfl info36 hcp.out ?_) | (refine st_new 70 _ _ rfl _ 70 _ rfl rfl rfl _ rfl info36 rfl (pc_one p) ?_))
            go_big_quiet (fail)
            go_wp2_with fail
            go_roundg (l.length - (i + 1))
            case measure => omega
            case rel => exact ⟨i + 1, i, by omega, rfl, rfl, by go_num, hnew.out, hbn.out _⟩
           ·have c3d : decide (p.seq < q.seq) = false := decide_eq_false c3
            have hnew := hbest.out.stay (by rw [hle.out]; simp only [leP, Bool.or_eq_true, Bool.and_eq_true, decide_eq_true_eq, beq_iff_eq]; omega)
            replace hnew := Lib.hid hnew
            replace hwi2 := Lib.hid hwi2
            replace h5 := Lib.hid h5
            go_upto_region 10 with (first | go_skip | (refine ld_cells 70 _ rfl rfl b (o + i * 6) rfl (pc p) _ Try.underlying70 rfl info36 hcp.out ?_) | (refine st_new 70 _ _ rfl _ 70 _ rfl rfl rfl _ rfl info36 rfl (pc_one p) ?_))
            go_big_quiet (fail)
            go_wp2_with fail
            go_roundg (l.length - (i + 1))
            case measure => omega
            case rel => exact ⟨i + 1, m, by omega, rfl, rfl, by go_num, hnew.out, hbn.out _⟩
          ·have c2d : (p.cls == q.cls) = false := by simpa using c2
           have hnew := hbest.out.stay (by rw [hle.out]; simp only [leP, Bool.or_eq_true, Bool.and_eq_true, decide_eq_true_eq, beq_iff_eq]; omega)
           replace hnew := Lib.hid hnew
           replace hwi2 := Lib.hid hwi2
           replace h5 := Lib.hid h5
           go_upto_region 10 with (first | go_skip | (refine ld_cells 70 _ rfl rfl b (o + i * 6) rfl (pc p) _ Try.underlying70 rfl info36 hcp.out ?_) | (refine st_new 70 _ _ rfl _ 70 _ rfl rfl rfl _ rfl info36 rfl (pc_one p) ?_))
           go_big_quiet (fail)
           go_wp2_with fail
           go_roundg (l.length - (i + 1))
           case measure => omega
           case rel => exact ⟨i + 1, m, by omega, rfl, rfl, by go_num, hnew.out, hbn.out _⟩
      ·have hsk := hbest.out.skip (fun hw => absurd (hwi.out.1 hw).2 h4)
       replace hsk := Lib.hid hsk
       go_wp2_with (first | go_skip | (refine ld_cells 70 _ rfl rfl b (o + i * 6) rfl (pc p) _ Try.underlying70 rfl info36 hcp.out ?_) | (refine st_new 70 _ _ rfl _ 70 _ rfl rfl rfl _ rfl info36 rfl (pc_one p) ?_))
       go_roundg (l.length - (i + 1))
       case measure => omega
       case rel => exact ⟨i + 1, bb, by omega, rfl, rfl, by go_num, hsk.out, hbw2⟩
     ·have hsk := hbest.out.skip (fun hw => absurd (hwi.out.1 hw).1 h3)
      replace hsk := Lib.hid hsk
      go_wp2_with (first | go_skip | (refine ld_cells 70 _ rfl rfl b (o + i * 6) rfl (pc p) _ Try.underlying70 rfl info36 hcp.out ?_) | (refine st_new 70 _ _ rfl _ 70 _ rfl rfl rfl _ rfl info36 rfl (pc_one p) ?_))
      go_roundg (l.length - (i + 1))
      case measure => omega
      case rel => exact ⟨i + 1, bb, by omega, rfl, rfl, by go_num, hsk.out, hbw2⟩
    ·have hd2 : decide ((i : Int) < (l.length : Int)) = false := by simp; omega
     have hil : i = l.length := by omega
     rw [hil] at hbest
     clear hd2
     have hni : ¬ (i : Int) < (l.length : Int) := by omega
     have hni2 : l.length ≤ i := by omega
     replace hil := Lib.hid hil
     rcases hbest.at_ (Nat.le_refl _) with rfl | ⟨m, rfl, hm⟩
     ·have hs2 := hsel.out.none hbest
      replace hs2 := Lib.hid hs2
      replace hbest := Lib.hid hbest
      go_wp2_with fail
      go_roundg (l.length - (j + 1))
      case measure => omega
      case rel => exact ⟨j + 1, out, by omega, rfl, by go_num, hs2.out, hown.out.below hbw, hgx, hsx, hbx2⟩
     ·obtain ⟨hm2, hmo, hs2⟩ := hsel.out.some hbest
      have hmn : (m : Int) ∉ nats out := fun h => hmo (nats_mem.1 h)
      have hol2 := hs2.len
      rw [List.length_append] at hol2
      simp only [List.length_cons, List.length_nil] at hol2
      obtain ⟨w2, hput, hsp, hgr2, hsz2⟩ := hsx.put Try.underlying74 Try.underlying3 (m : Int) hmn
      have hg2 := (hgr2.block _ (hlt hgx) (by simp)).trans hgx
      replace hsz2 := Lib.hid hsz2
      have hb2 : Below w.heap.size w w2 := hbx2.grown hgr2 hbx2.size (fun k hk => by cases hk; omega)
      have hown2 : OwnInts w2 (w.heap.size + 2) u5 (nats out) := (hown.out.below hbw).grownO hgr2 (by omega)
      have hown3 := hown2.alloc (.cells #[.int .i64 (m : Int)] 3)
      replace hs2 := Lib.hid hs2
      replace hmo := Lib.hid hmo
      replace hmn := Lib.hid hmn
      replace hbest := Lib.hid hbest
      replace hown2 := Lib.hid hown2
      replace hown3 := Lib.hid hown3
      go_wp2_with (first | go_skip | (at_builtin; refine wpList_append_own _ rfl _ _ 42 rfl (w.heap.size + 2) 3 i0 z 1 8 Try.underlying42 hi hz0 hz1 hz2 hz3 (by decide) u5 (nats out).length (icells (nats out)) rfl hown3.out.1 ⟨w2.heap.size, 0, none⟩ 1 1 [.int .i64 (m : Int)] rfl rfl ?c1 ?c2 ?c3 ?c4 ?c5 ?_))
      case c2 => rfl
      case c3 => rw [nats_len]; simp only [maxLen]; omega
      case c4 => rw [nats_len]; omega
      case c5 => have := hgr2.size; have := hsx.lt; omega
      intro v' w3 hownv hgr _
      have hO3 : OwnInts w3 (w.heap.size + 2) v' (nats (out ++ [m])) := by
       rw [nats_snoc]
       exact OwnInts.snoc rfl (by rw [nats_len]; omega) hownv
      have hbz := hb2.alloc hb2.size (.cells #[.int .i64 (m : Int)] 3)
      have hb3 : Below w.heap.size w w3 := hbz.grown hgr hbz.size fun g hg => by have := hown2.out.own hg; omega
      have hg3 := (hgr.block _ (hlt (hold hg2 _)) (fun e => by have := hown2.out.own e.symm; omega)).trans (hold hg2 (.cells #[.int .i64 (m : Int)] 3))
      have hs3 : SeenAt w3 (w.heap.size + 1) (nats (out ++ [m])) := by
       rw [nats_snoc]
       have h7 : SeenAt (w2.alloc (.cells #[.int .i64 (m : Int)] 3)) (w.heap.size + 1) (nats out ++ [(m : Int)]) := hsp.below ((Below.refl _ _).alloc (Nat.le_refl _) _)
       exact h7.keep (hgr.block _ h7.lt (fun e => by have := hown2.out.own e.symm; omega))
      replace hownv := Lib.hid hownv
      clear hgr
      go_wp2_with fail
      go_roundg (l.length - (j + 1))
      case measure => omega
      case rel => exact ⟨j + 1, out ++ [m], by omega, rfl, by go_num, hs2.out, hO3, hg3, hs3, hb3⟩
  ·have hd1 : decide ((j : Int) < (l.length : Int)) = false := by simp; omega
   have hjl : j = l.length := by omega
   have hq : IsQueue l bank out := by have := hsel.out; rw [hjl] at this; exact this.is
   replace hjl := Lib.hid hjl
   replace hq := Lib.hid hq
   go_wp2_with fail
   go_ret
   exact ⟨⟨u5, out, rfl, hq.out, hown.out.mono (by omega)⟩, hb⟩
end Go.Proofs.Ytggfdkkhlokmlab


