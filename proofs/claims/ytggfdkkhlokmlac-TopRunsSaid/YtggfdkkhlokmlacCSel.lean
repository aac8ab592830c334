/- The least of those that are left, again and again: plain Lean. -/
import Derived.Deep.LoopGhost
import Derived.BigQuiet
import Derived.WalkKit
import Derived.BigRegion
import Derived.Outline
import Derived.Lib.SliceRun
import Derived.Deep.Cut
import Derived.Test.YtggfdkkhlokmlacCPln
import Derived.Test.YtggfdkkhlokmlacCMem
import Derived.Test.YtggfdkkhlokmlacCLed
namespace Go.Proofs.Ytggfdkkhlokmlac
open Go.RowKit

/-- out: what j rounds have picked. -/
structure Sel (l : List Pay) (bank : Int) (out : List Nat) (j : Nat) : Prop where
  nodup : out.Nodup
  sub : ∀ x ∈ out, x ∈ waits l bank
  sorted : out.Pairwise fun i k => leB l i k = true
  low : ∀ x ∈ out, ∀ y ∈ waits l bank, y ∉ out → leB l x y = true
  prog : out.length = j ∨ ∀ y ∈ waits l bank, y ∈ out
/-- b: the least among the first i that wait and are not picked; -1: there is none. -/
def Best (l : List Pay) (bank : Int) (out : List Nat) (i : Nat) (b : Int) : Prop :=
  (b = -1 ∧ ∀ k, k < i → k ∈ waits l bank → k ∈ out) ∨ (∃ m : Nat, b = m ∧ m < i ∧ m ∈ waits l bank ∧ m ∉ out ∧ ∀ k, k < i → k ∈ waits l bank → k ∉ out → leB l m k = true)
theorem Sel.zero (l : List Pay) (bank : Int) : Sel l bank [] 0 := ⟨List.nodup_nil, by simp, List.Pairwise.nil, by simp, .inl rfl⟩
theorem Sel.none {l : List Pay} {bank : Int} {out : List Nat} {j : Nat} (h : Sel l bank out j) (hb : Best l bank out l.length (-1)) : Sel l bank out (j + 1) := by
  rcases hb with ⟨_, hb⟩ | ⟨m, e, _⟩
  · exact ⟨h.nodup, h.sub, h.sorted, h.low, .inr fun y hy => hb y (waits_mem.1 hy).1 hy⟩
  · omega
theorem Sel.some {l : List Pay} {bank : Int} {out : List Nat} {j m : Nat} (h : Sel l bank out j) (hb : Best l bank out l.length m) : m < l.length ∧ m ∉ out ∧ Sel l bank (out ++ [m]) (j + 1) := by
  rcases hb with ⟨e, _⟩ | ⟨m', e, hm, hw, ho, hb⟩
  · omega
  · have e : m = m' := by omega
    subst e
    refine ⟨hm, ho, ⟨?_, ?_, ?_, ?_, ?_⟩⟩
    · rw [List.nodup_append]
      refine ⟨h.nodup, by simp, fun a ha b hb' e => ho ?_⟩
      simp only [List.mem_singleton] at hb'
      rw [← hb', ← e]; exact ha
    · intro x hx
      rcases List.mem_append.1 hx with hx | hx
      · exact h.sub x hx
      · simp only [List.mem_singleton] at hx; rw [hx]; exact hw
    · rw [List.pairwise_append]
      refine ⟨h.sorted, by simp, fun a ha b hb' => ?_⟩
      simp only [List.mem_singleton] at hb'
      rw [hb']; exact h.low a ha m hw ho
    · intro x hx y hy hy'
      simp only [List.mem_append, List.mem_singleton, not_or] at hx hy'
      rcases hx with hx | hx
      · exact h.low x hx y hy hy'.1
      · rw [hx]; exact hb y (waits_mem.1 hy).1 hy hy'.1
    · rcases h.prog with h' | h'
      · exact .inl (by simp [h'])
      · exact absurd (h' m hw) ho
theorem len_of_sub : ∀ {xs ys : List Nat}, xs.Nodup → (∀ x ∈ xs, x ∈ ys) → xs.length ≤ ys.length
  | [], _, _, _ => Nat.zero_le _
  | x :: xs, ys, hn, h => by
    obtain ⟨h1, h2⟩ := List.nodup_cons.1 hn
    have hx := h x (by simp)
    have ih := len_of_sub (xs := xs) (ys := ys.erase x) h2 fun y hy => (List.mem_erase_of_ne (show y ≠ x from fun e => h1 (e ▸ hy))).2 (h y (by simp [hy]))
    rw [List.length_erase_of_mem hx] at ih
    have := List.length_pos_of_mem hx
    simp only [List.length_cons]
    omega
theorem Sel.len {l : List Pay} {bank : Int} {out : List Nat} {j : Nat} (h : Sel l bank out j) : out.length ≤ l.length := Nat.le_trans (len_of_sub h.nodup h.sub) (waits_len l bank)
theorem Sel.is {l : List Pay} {bank : Int} {out : List Nat} (h : Sel l bank out l.length) : IsQueue l bank out := by
  refine ⟨?_, h.sorted⟩
  rw [List.perm_ext_iff_of_nodup h.nodup (waits_nodup l bank)]
  intro a
  refine ⟨h.sub a, fun ha => ?_⟩
  rcases h.prog with h' | h'
  · refine Classical.byContradiction fun hn => ?_
    have := len_of_sub (xs := a :: out) (ys := waits l bank) (List.nodup_cons.2 ⟨hn, h.nodup⟩) (fun x hx => by
      rcases List.mem_cons.1 hx with rfl | hx
      · exact ha
      · exact h.sub x hx)
    have h2 := waits_len l bank
    simp only [List.length_cons] at this
    omega
  · exact h' a ha
theorem Best.zero (l : List Pay) (bank : Int) (out : List Nat) : Best l bank out 0 (-1) := .inl ⟨rfl, fun k hk => by omega⟩
theorem lt_split {i k : Nat} (h : k < i + 1) : k < i ∨ k = i := by omega
theorem Best.skip {l : List Pay} {bank : Int} {out : List Nat} {i : Nat} {b : Int} (h : Best l bank out i b) (hi : i ∈ waits l bank → i ∈ out) : Best l bank out (i + 1) b := by
  rcases h with ⟨e, h⟩ | ⟨m, e, hm, hw, ho, h⟩
  · exact .inl ⟨e, fun k hk hk' => (lt_split hk).elim (fun hk => h k hk hk') fun hk => hk ▸ hi (hk ▸ hk')⟩
  · exact .inr ⟨m, e, by omega, hw, ho, fun k hk hk' hko => (lt_split hk).elim (fun hk => h k hk hk' hko) fun hk => absurd (hi (hk ▸ hk')) (hk ▸ hko)⟩
theorem leB_refl (l : List Pay) (i : Nat) : leB l i i = true := by simp [leB, leP]
theorem Best.new {l : List Pay} {bank : Int} {out : List Nat} {i : Nat} {b : Int} (h : Best l bank out i b) (hb : b < 0) (hw : i ∈ waits l bank) (ho : i ∉ out) : Best l bank out (i + 1) i := by
  rcases h with ⟨e, h⟩ | ⟨m, e, _⟩
  · exact .inr ⟨i, rfl, by omega, hw, ho, fun k hk hk' hko => (lt_split hk).elim (fun hk => absurd (h k hk hk') hko) fun hk => hk ▸ leB_refl l i⟩
  · omega
theorem Best.less {l : List Pay} {bank : Int} {out : List Nat} {i m : Nat} (h : Best l bank out i m) (hl : leB l m i = false) (hw : i ∈ waits l bank) (ho : i ∉ out) : Best l bank out (i + 1) i := by
  rcases h with ⟨e, h⟩ | ⟨m', e, hm, hw', ho', h⟩
  · omega
  · have e : m = m' := by omega
    subst e
    refine .inr ⟨i, rfl, by omega, hw, ho, fun k hk hk' hko => (lt_split hk).elim (fun hk => ?_) fun hk => hk ▸ leB_refl l i⟩
    have h1 := h k hk hk' hko
    have h2 := leP_total (payAt l m) (payAt l i)
    have h3 : leP (payAt l m) (payAt l i) = false := hl
    rw [h3, Bool.false_or] at h2
    exact leP_trans _ _ _ h2 h1
theorem Best.stay {l : List Pay} {bank : Int} {out : List Nat} {i m : Nat} (h : Best l bank out i m) (hl : leB l m i = true) : Best l bank out (i + 1) m := by
  rcases h with ⟨e, h⟩ | ⟨m', e, hm, hw', ho', h⟩
  · omega
  · have e : m = m' := by omega
    subst e
    exact .inr ⟨m, rfl, by omega, hw', ho', fun k hk hk' hko => (lt_split hk).elim (fun hk => h k hk hk' hko) fun hk => hk ▸ hl⟩
theorem Best.at_ {l : List Pay} {bank : Int} {out : List Nat} {i : Nat} {b : Int} (h : Best l bank out i b) (h0 : i ≤ l.length) : (b = -1) ∨ ∃ m : Nat, b = m ∧ m < l.length := by
  rcases h with ⟨e, _⟩ | ⟨m, e, hm, _⟩
  · exact .inl e
  · exact .inr ⟨m, e, by omega⟩
theorem alloc_sz (w : World) (o : Obj) : (w.alloc o).heap.size = w.heap.size + 1 := by simp
/-- Indexes as ints. -/
def nats (xs : List Nat) : List Int := xs.map fun x : Nat => (x : Int)
theorem nats_len (xs : List Nat) : (nats xs).length = xs.length := by simp [nats]
/-- What a bank's queue answers. -/
def QPost (l : List Pay) (bank : Int) (w : World) (e : Ending) (w' : World) : Prop := (∃ v xs, e = .returned v ∧ IsQueue l bank xs ∧ OwnInts w' w.heap.size v (nats xs)) ∧ Below w.heap.size w w'
end Go.Proofs.Ytggfdkkhlokmlac

namespace Go.Proofs.Ytggfdkkhlokmlac
open Go.RowKit
/-- The cells of a reply. -/
def rc (c n : Int) (s : Value) : Array Value := #[.int .i64 c, .int .i64 n, s]
theorem rc_0 (c n : Int) (s : Value) : (rc c n s)[0]? = some (.int .i64 c) := rfl
theorem rc_1 (c n : Int) (s : Value) : (rc c n s)[1]? = some (.int .i64 n) := rfl
theorem rc_2 (c n : Int) (s : Value) : (rc c n s)[2]? = some s := rfl
theorem rc_size (c n : Int) (s : Value) : (rc c n s).size = 3 := rfl
attribute [local go_sem] rc_0 rc_1 rc_2 rc_size
end Go.Proofs.Ytggfdkkhlokmlac

namespace Go.Proofs.Ytggfdkkhlokmlac
open Go.RowKit
attribute [local go_sem] hc_pays hc_next hc_size pc_0 pc_1 pc_2 pc_3 pc_4 pc_5
def ClonePost (l : List Pay) (w : World) (e : Ending) (w' : World) : Prop := (∃ v, e = .returned v ∧ OwnPays w' w.heap.size v l) ∧ Below w.heap.size w w'
set_option maxRecDepth 100000 in
set_option maxHeartbeats 1000000 in
theorem clone_some (l : List Pay) (a : Addr) (cap : Nat) (w : World) (hp : PaysAt w (some a) cap l) :
    Calls Try.prog 35 #[.slice (some a) l.length cap] w (ClonePost l w) := by
  have hroom := hp.room
  have hnews : ∀ j u, (flat l)[j]? = some u → w.cell? (a.add j) = some u ∧ (a.add j).block < w.heap.size := by
    rcases Nat.eq_zero_or_pos l.length with h0 | h0
    · rw [List.length_eq_zero_iff.1 h0]; intro j u hu; simp [flat] at hu
    · obtain ⟨b, off, e, hbl, _⟩ := hp.row h0
      cases e
      exact fun j u hu => ⟨hp.cells j u hu, by unfold Addr.add; split <;> exact hbl⟩
  replace hnews := Lib.hid hnews
  have hmx : l.length ≤ maxLen := Nat.le_trans hp.le hp.capm
  clear hp
  obtain ⟨i0, z, hi, hz0, hz1, hz2, hz3⟩ := info36z
  have hq := fun w => Lib.run_eql_slice_nil (P := Try.prog) w 40 45 (some a) l.length cap 0 0 Try.underlying40
  go_enter Try.func35, Try.ntmps35
  go_wp2_with (at_builtin; refine wpList_append_own _ rfl _ _ 40 rfl w.heap.size 45 i0 z 6 48 Try.underlying40 hi hz0 hz1 hz2 hz3 (by decide) (.slice (some ⟨w.heap.size, 0, none⟩) 0 0) 0 [] rfl ⟨rfl, .inr ⟨w.heap.size, 0, #[], rfl, Nat.le_refl _, hnew w _, Nat.le_refl _, Nat.zero_le _, rfl, rfl⟩⟩ a l.length cap (flat l) rfl (flat_length l) ?c1 (flat_one l) ?c3 ?c4 ?c5 ?_)
  case c1 =>
    intro j u hu
    obtain ⟨h1, h2⟩ := hnews.out j u hu
    rw [← h1]
    exact ((Below.refl w.heap.size _).alloc (Nat.le_refl _) _).cell h2
  case c3 => simpa using hmx
  case c4 => simpa using hroom
  case c5 => simp
  intro v' w1 hown hgr _
  have hO : OwnPays w1 w.heap.size v' l := ⟨by simpa using hown, hroom⟩
  have hB : Below w.heap.size w w1 := ((Below.refl w.heap.size _).alloc (Nat.le_refl _) _).grown hgr (by simp) (fun k hk => by simp [Value.ownBlock] at hk; omega)
  replace hown := Lib.hid hown
  clear hgr
  go_wp2
  go_ret
  exact ⟨⟨_, rfl, hO⟩, hB⟩
set_option maxRecDepth 100000 in
set_option maxHeartbeats 1000000 in
theorem clone_nil (w : World) : Calls Try.prog 35 #[.slice none 0 0] w (ClonePost [] w) := by
  have hq := fun w => Lib.run_eql_slice_nil (P := Try.prog) w 40 45 none 0 0 0 0 Try.underlying40
  go_enter Try.func35, Try.ntmps35
  go_wp2
  go_ret
  exact ⟨⟨_, rfl, ⟨rfl, .inl ⟨rfl, rfl⟩⟩, by simp⟩, Below.refl _ _⟩
theorem clone_any (l : List Pay) (a : Option Addr) (cap : Nat) (w : World) (hp : PaysAt w a cap l) : Calls Try.prog 35 #[.slice a l.length cap] w (ClonePost l w) := by
  cases a with
  | some a => exact clone_some l a cap w hp
  | none =>
    have hc0 := hp.nil0 rfl
    have hl0 : l = [] := List.length_eq_zero_iff.1 (by have := hp.le; omega)
    subst hl0
    subst hc0
    exact clone_nil w
/-- One field of one payment in a row is overwritten. -/
theorem row_set {cur : Array Value} {l : List Pay} {i f : Nat} {q : Pay} {u : Value} (hcur : ∀ j p, l[j]? = some p → ∀ k v, (pc p)[k]? = some v → cur[j * 6 + k]? = some v) (hi : i < l.length) (hf : f < 6)
    (hq : ∀ k v, (pc q)[k]? = some v → (k = f ∧ v = u) ∨ (k ≠ f ∧ (pc (payAt l i))[k]? = some v)) :
    ∀ j p, (l.set i q)[j]? = some p → ∀ k v, (pc p)[k]? = some v → (cur.setIfInBounds (i * 6 + f) u)[j * 6 + k]? = some v := by
  intro j p hj k v hk
  have hk6 : k < 6 := (Array.getElem?_eq_some_iff.1 hk).1
  by_cases e : i = j
  · subst e
    rw [List.getElem?_set_self hi] at hj
    cases hj
    rcases hq k v hk with ⟨rfl, rfl⟩ | ⟨hne, h2⟩
    · have h3 : (pc (payAt l i))[k]? = some ((pc (payAt l i))[k]'hk6) := Array.getElem?_eq_getElem hk6
      have h4 := hcur i _ (payAt_get hi) k _ h3
      have h5 := (Array.getElem?_eq_some_iff.1 h4).1
      simp [h5]
    · rw [Array.getElem?_setIfInBounds_ne (by omega)]
      exact hcur i _ (payAt_get hi) k v h2
  · rw [List.getElem?_set_ne e] at hj
    rw [Array.getElem?_setIfInBounds_ne (by omega)]
    exact hcur j p hj k v hk
theorem OwnPays.row {w : World} {base : Nat} {v : Value} {l : List Pay} (h : OwnPays w base v l) (hl : 0 < l.length) : ∃ g cap cur, v = .slice (some ⟨g, 0, none⟩) l.length cap ∧ base ≤ g ∧ w.heap[g]? = some (.cells cur 45 (0, 0)) ∧ l.length ≤ cap ∧ cap ≤ maxLen ∧ cur.size = cap * 6 ∧ ∀ j p, l[j]? = some p → ∀ k v, (pc p)[k]? = some v → cur[j * 6 + k]? = some v := by
  obtain ⟨⟨hlen, hv⟩, hroom⟩ := h
  rcases hv with ⟨rfl, h0⟩ | ⟨g, cap, cur, rfl, hb, hg, hn, hc, hsz, htake⟩
  · omega
  · refine ⟨g, cap, cur, rfl, hb, hg, hn, hc, hsz, fun j p hp k v hv => ?_⟩
    have h1 := flat_get l j p hp k v hv
    have hj := (List.getElem?_eq_some_iff.1 hp).1
    have hk : k < 6 := (Array.getElem?_eq_some_iff.1 hv).1
    rw [← htake, List.getElem?_take_of_lt (by omega)] at h1
    simpa using h1
theorem PaysAt.of_row {w : World} {g cap : Nat} {cur : Array Value} {l : List Pay} (hg : w.heap[g]? = some (.cells cur 45 (0, 0))) (hn : l.length ≤ cap) (hc : cap ≤ maxLen) (hr : l.length * 48 ≤ 140737488355328) (hcur : ∀ j p, l[j]? = some p → ∀ k v, (pc p)[k]? = some v → cur[j * 6 + k]? = some v) : PaysAt w (some ⟨g, 0, none⟩) cap l :=
  ⟨hn, hc, hr, by simp, fun _ => ⟨g, 0, rfl, hlt hg, fun i p hp j v hv => by rw [Nat.zero_add, cells_at hg]; exact hcur i p hp j v hv⟩⟩
/-- A house by value behind a settling: its payments lie in a block of the call's own. -/
def SettlePost (h : Hs) (l : List Pay) (w : World) (e : Ending) (w' : World) : Prop := (∃ a cap, e = .returned (.agg (hc h (.slice a l.length cap))) ∧ PaysAt w' a cap l ∧ ∀ b off s, a = some ⟨b, off, s⟩ → w.heap.size ≤ b) ∧ Below w.heap.size w w'
set_option maxRecDepth 100000 in
set_option maxHeartbeats 4000000 in
theorem settle_yes (h : Hs) (l : List Pay) (a : Option Addr) (cap i : Nat) (w : World) (hp : PaysAt w a cap l) (hr : h.Room) (hi : i < l.length) (h1 : (payAt l i).st = 1) :
    Calls Try.prog 45 #[.agg (hc h (.slice a l.length cap)), .int .i64 i] w (SettlePost (h.move (payAt l i).frm (payAt l i).to (payAt l i).amt) (settled l i) w) := by
  have hpi := payAt_get hi
  have hset : settled l i = l.set i (payAt l i).done := rfl
  have hsl := settled_len l i
  rw [hset] at hsl ⊢
  have hfin := fun cur => row_set (cur := cur) (l := l) (i := i) (f := 4) (q := (payAt l i).done) (u := .int .i64 2)
  have hq : ∀ k v, (pc (payAt l i).done)[k]? = some v → (k = 4 ∧ v = .int .i64 2) ∨ (k ≠ 4 ∧ (pc (payAt l i))[k]? = some v) := by
    intro k v hv
    have hk : k < 6 := (Array.getElem?_eq_some_iff.1 hv).1
    rcases k with _ | _ | _ | _ | _ | _ | k
    · exact .inr ⟨by omega, hv⟩
    · exact .inr ⟨by omega, hv⟩
    · exact .inr ⟨by omega, hv⟩
    · exact .inr ⟨by omega, hv⟩
    · left; exact ⟨rfl, by simpa [pc, Pay.done] using hv.symm⟩
    · exact .inr ⟨by omega, hv⟩
    · omega
  obtain ⟨p, ep⟩ : ∃ p, payAt l i = p := ⟨_, rfl⟩
  rw [ep] at hpi h1 hq ⊢
  rw [ep] at hfin hsl
  have hml : (l.length : Int) ≤ 9223372036854775807 := by have h1 := hp.le; have h2 := hp.capm; unfold maxLen at h2; omega
  have hii : (i : Int) < (l.length : Int) := by omega
  have hl0 : 0 < l.length := by omega
  have hroom := hp.room
  have hone : (Value.slice a l.length cap).oneCell' = true := rfl
  replace ep := Lib.hid ep
  replace hset := Lib.hid hset
  replace hsl := Lib.hid hsl
  replace hfin := Lib.hid hfin
  replace hq := Lib.hid hq
  replace hpi := Lib.hid hpi
  replace hp := Lib.hid hp
  go_enter Try.func45, Try.ntmps45
  go_upto_region 1 with fail
  generalize hW : World.alloc (World.alloc w _) _ = W0
  have hgA : W0.heap[w.heap.size]? = some (.cells (hc h (.slice a l.length cap)) 42 (0, 0)) := by rw [← hW]; exact heap_alloc2_old w _ _
  have hgZ : W0.heap[w.heap.size + 1]? = some (.cells (hc Hs.zero (.slice none 0 0)) 42 (0, 0)) := by rw [← hW]; exact heap_alloc2_new w _ _
  have hB : Below w.heap.size w W0 := by rw [← hW]; exact ((Below.refl w.heap.size w).alloc (Nat.le_refl _) _).alloc (by simp) _
  have hp0 := hp.out.below hB
  clear hW
  obtain ⟨b, o, rfl, hbl, hc0⟩ := hp0.row hl0
  obtain ⟨x0, x1, x2, x3, x4, x5⟩ := hp0.six hpi.out
  have hcp : ∀ j v, (pc p)[j]? = some v → W0.cell? ⟨b, o + i * 6 + j, none⟩ = some v := fun j v hv => by rw [Nat.add_assoc]; exact hc0 i p hpi.out j v hv
  rw [h1] at x4
  replace hcp := Lib.hid hcp
  have hcl := cells_at hgA
  clear hc0 x0 x1 x2 x3 x5
  go_upto_region 4 with (first | go_skip | (refine ld_cells 45 _ rfl rfl b (o + i * 6) rfl (pc p) _ Try.underlying45 rfl info36 hcp.out ?_) | (refine st_new 45 _ _ rfl W0 45 _ rfl rfl rfl _ rfl info36 rfl (pc_one p) ?_))
  clear hcl x4
  have hP := cells_at (hnew W0 (.cells (pc p) 45))
  go_upto_region 5 with (first | go_skip | (refine ld_row 42 _ rfl rfl _ rfl _ _ _ _ (hold hgA _) Try.underlying42 rfl info30 ?_) | (go_at_call 53; refine (move_any h _ p.frm p.to p.amt _ hr hone).mono ?_; rintro e w1 ⟨rfl, hb1⟩) | (refine st_row 42 _ _ rfl rfl _ rfl _ rfl _ _ (hkeep hb1 (hold hgA _)) info30 rfl (hc_one _ _ rfl) ?_; intro w2 hgA2 hgr hsz))
  simp only [Act.put]
  obtain ⟨h', hh'⟩ : ∃ h', h.move p.frm p.to p.amt = h' := ⟨_, rfl⟩
  rw [hh'] at hgA2 ⊢
  replace hh' := Lib.hid hh'
  clear hP
  have hZ1 : w1.heap[w.heap.size + 1]? = some (.cells (hc Hs.zero (.slice none 0 0)) 42 (0, 0)) := hkeep hb1 (hold hgZ _)
  have hZ2 : w2.heap[w.heap.size + 1]? = some (.cells (hc Hs.zero (.slice none 0 0)) 42 (0, 0)) := (hgr.block _ (hlt hZ1) (by simp)).trans hZ1
  have hB0 := hB.alloc hB.size (.cells (pc p) 45)
  have hB1 : Below w.heap.size w w1 := hB0.trans (hb1.mono hB0.size)
  have hB2 : Below w.heap.size w w2 := hB1.grown hgr hB1.size (fun k hk => by cases hk; exact Nat.le_refl _)
  have hp2 := hp.out.below hB2
  clear hZ1 hB0 hB1 hgr hsz hb1 hgA hgZ hp0 hB
  have hcl := cells_at hgA2
  go_upto_region 6 with (first | go_skip | (go_at_call 35; refine (clone_any l _ cap _ hp2).mono ?_; rintro e w3 ⟨⟨v, rfl, hown⟩, hb3⟩; obtain ⟨g, cap', cur, rfl, hgg, hcur, hcn, hcm, hcz, hcr⟩ := hown.row hl0; have hcl3 := cells_at (hkeep hb3 hgA2); have hfr3 := frozenAt (hkeep hb3 hgA2)))
  have hA3 := hkeep hb3 hgA2
  have hZ3 := hkeep hb3 hZ2
  have hlA : w.heap.size < w2.heap.size := hlt hgA2
  have hlZ : w.heap.size + 1 < w2.heap.size := hlt hZ2
  have hB3 : Below w.heap.size w w3 := hB2.trans (hb3.mono hB2.size)
  have hgA' : g ≠ w.heap.size := by omega
  have hci : i * 6 + 4 < cur.size := by rw [hcz]; omega
  have hcg : w3.cell? ⟨g, i * 6 + 4, none⟩ = some (.int .i64 1) := by
    rw [cells_at hcur, hcr i p hpi.out 4 _ (pc_4 p), h1]
  have hfg : w3.frozen? ⟨g, i * 6 + 4, none⟩ = false := frozenAt hcur _
  have hAs := hsetOther (hsetSame (i := 40) hA3 (.slice (some ⟨g, 0, none⟩) l.length cap')) (g := g) (i := i * 6 + 4) (Ne.symm hgA') (.int .i64 2)
  have hZs := hsetOther (g := g) (i := i * 6 + 4) (hsetOther (g := w.heap.size) (i := 40) hZ3 (by omega) (.slice (some ⟨g, 0, none⟩) l.length cap')) (by omega) (.int .i64 2)
  have hGs := hsetSame (i := i * 6 + 4) (hsetOther (g := w.heap.size) (i := 40) hcur hgA' (.slice (some ⟨g, 0, none⟩) l.length cap')) (.int .i64 2)
  rw [hc_setPays] at hAs
  replace hAs := Lib.hid hAs
  replace hZs := Lib.hid hZs
  replace hGs := Lib.hid hGs
  replace hcr := Lib.hid hcr
  replace hcz := Lib.hid hcz
  replace hcur := Lib.hid hcur
  replace hA3 := Lib.hid hA3
  replace hZ3 := Lib.hid hZ3
  replace hgA2 := Lib.hid hgA2
  replace hZ2 := Lib.hid hZ2
  clear hcl
  go_wp2_with (first | go_skip | (refine ld_row 42 _ rfl rfl _ rfl _ _ _ _ hAs.out Try.underlying42 rfl info30 ?_) | (refine st_row 42 _ _ rfl rfl _ rfl _ rfl _ _ hZs.out info30 rfl (hc_one _ _ rfl) ?_; intro w5 hr5 hgr5 hsz5))
  have hG5 := (hgr5.block _ (hlt hGs.out) (by simp; omega)).trans hGs.out
  have hcur2 := hfin.out cur hcr.out hi (by omega) hq.out
  have hB4 := (hB3.setCell (p := ⟨w.heap.size, 40, none⟩) (Nat.le_refl _) (.slice (some ⟨g, 0, none⟩) l.length cap')).setCell (p := ⟨g, i * 6 + 4, none⟩) (by show w.heap.size ≤ g; omega) (.int .i64 2)
  refine bodyPost_ret (results_house rfl _ _ _ _ _ rfl hr5) rfl ⟨⟨some ⟨g, 0, none⟩, cap', by rw [hsl.out, hh'.out], PaysAt.of_row hG5 (by rw [hsl.out]; exact hcn) hcm (by rw [hsl.out]; exact hroom) hcur2, fun b off s e => by cases e; omega⟩, ?_⟩
  exact hB4.grown hgr5 hB4.size fun k hk => by cases hk; omega
end Go.Proofs.Ytggfdkkhlokmlac

namespace Go.Proofs.Ytggfdkkhlokmlac
open Go.RowKit
attribute [local go_sem] hc_pays hc_next hc_size pc_0 pc_1 pc_2 pc_3 pc_4 pc_5
def SamePost (h : Hs) (s : Value) (w : World) (e : Ending) (w' : World) : Prop := e = .returned (.agg (hc h s)) ∧ Below w.heap.size w w'
set_option maxRecDepth 100000 in
set_option maxHeartbeats 4000000 in
theorem settle_no (h : Hs) (l : List Pay) (a : Option Addr) (cap : Nat) (n : Int) (w : World) (hp : PaysAt w a cap l) (hn : ¬ (0 ≤ n ∧ n < l.length ∧ (payAt l n.toNat).st = 1)) :
    Calls Try.prog 45 #[.agg (hc h (.slice a l.length cap)), .int .i64 n] w (SamePost h (.slice a l.length cap) w) := by
  have hml : (l.length : Int) ≤ 9223372036854775807 := by have h1 := hp.le; have h2 := hp.capm; unfold maxLen at h2; omega
  have h1 : (Value.slice a l.length cap).oneCell' = true := rfl
  by_cases n0 : n < 0
  · clear hp hn
    go_enter Try.func45, Try.ntmps45
    go_wp2_with (first | go_skip | (refine ld_row 42 _ rfl rfl _ rfl _ _ _ _ (heap_alloc2_old _ _ _) Try.underlying42 rfl info30 ?_) | (refine st_row 42 _ _ rfl rfl _ rfl _ rfl _ _ (heap_alloc2_new _ _ _) info30 rfl (hc_one _ _ h1) ?_; intro w' hr hgr hsz))
    refine bodyPost_ret (results_house rfl _ _ _ _ _ rfl hr) rfl ⟨rfl, ?_⟩
    exact (((Below.refl _ _).alloc (Nat.le_refl _) _).alloc (by simp) _).grown hgr (by simp; omega) (fun k hk => by cases hk; omega)
  · by_cases n1 : n < l.length
    · obtain ⟨i, rfl⟩ : ∃ i : Nat, n = i := ⟨n.toNat, by omega⟩
      have hi : i < l.length := by omega
      have hst : (payAt l i).st ≠ 1 := fun e => hn ⟨by omega, n1, by simpa using e⟩
      have hpi := payAt_get hi
      obtain ⟨p, ep⟩ : ∃ p, payAt l i = p := ⟨_, rfl⟩
      rw [ep] at hst hpi
      obtain ⟨b, o, rfl, _, _⟩ := hp.row (by omega)
      have hdi : decide (l.length ≤ i) = false := decide_eq_false (by omega)
      replace hp := Lib.hid hp
      replace ep := Lib.hid ep
      replace hpi := Lib.hid hpi
      clear hn
      go_enter Try.func45, Try.ntmps45
      go_upto_region 1 with fail
      generalize hW : World.alloc (World.alloc w _) _ = W0
      have hgA : W0.heap[w.heap.size]? = some (.cells (hc h (.slice (some ⟨b, o, none⟩) l.length cap)) 42 (0, 0)) := by rw [← hW]; exact heap_alloc2_old w _ _
      have hgZ : W0.heap[w.heap.size + 1]? = some (.cells (hc Hs.zero (.slice none 0 0)) 42 (0, 0)) := by rw [← hW]; exact heap_alloc2_new w _ _
      have hB : Below w.heap.size w W0 := by rw [← hW]; exact ((Below.refl w.heap.size w).alloc (Nat.le_refl _) _).alloc (by simp) _
      have hp2 := hp.out.below hB
      clear hW
      obtain ⟨x0, x1, x2, x3, x4, x5⟩ := hp2.six hpi.out
      have hcl := cells_at hgA
      clear x0 x1 x2 x3 x5 hp2
      go_wp2_with (first | go_skip | (refine ld_row 42 _ rfl rfl _ rfl _ _ _ _ hgA Try.underlying42 rfl info30 ?_) | (refine st_row 42 _ _ rfl rfl _ rfl _ rfl _ _ hgZ info30 rfl (hc_one _ _ h1) ?_; intro w' hr hgr hsz))
      refine bodyPost_ret (results_house rfl _ _ _ _ _ rfl hr) rfl ⟨rfl, ?_⟩
      exact hB.grown hgr hB.size (fun k hk => by cases hk; omega)
    · clear hp hn
      have n2 : (l.length : Int) ≤ n := by omega
      go_enter Try.func45, Try.ntmps45
      go_wp2_with (first | go_skip | (refine ld_row 42 _ rfl rfl _ rfl _ _ _ _ (heap_alloc2_old _ _ _) Try.underlying42 rfl info30 ?_) | (refine st_row 42 _ _ rfl rfl _ rfl _ rfl _ _ (heap_alloc2_new _ _ _) info30 rfl (hc_one _ _ h1) ?_; intro w' hr hgr hsz))
      refine bodyPost_ret (results_house rfl _ _ _ _ _ rfl hr) rfl ⟨rfl, ?_⟩
      exact (((Below.refl _ _).alloc (Nat.le_refl _) _).alloc (by simp) _).grown hgr (by simp; omega) (fun k hk => by cases hk; omega)
/-- What settling payment n makes of a house. -/
def settleH (h : Hs) (l : List Pay) (n : Int) : Hs := if 0 ≤ n ∧ n < l.length ∧ (payAt l n.toNat).st = 1 then h.move (payAt l n.toNat).frm (payAt l n.toNat).to (payAt l n.toNat).amt else h
def settleL (l : List Pay) (n : Int) : List Pay := if 0 ≤ n ∧ n < l.length ∧ (payAt l n.toNat).st = 1 then settled l n.toNat else l
theorem settleL_len (l : List Pay) (n : Int) : (settleL l n).length = l.length := by unfold settleL; split <;> simp [settled]
def HPost (h : Hs) (l : List Pay) (w : World) (e : Ending) (w' : World) : Prop := (∃ a cap, e = .returned (.agg (hc h (.slice a l.length cap))) ∧ PaysAt w' a cap l) ∧ Below w.heap.size w w'
theorem settle_any (h : Hs) (l : List Pay) (a : Option Addr) (cap : Nat) (n : Int) (w : World) (hp : PaysAt w a cap l) (hr : h.Room) :
    Calls Try.prog 45 #[.agg (hc h (.slice a l.length cap)), .int .i64 n] w (HPost (settleH h l n) (settleL l n) w) := by
  by_cases hn : 0 ≤ n ∧ n < l.length ∧ (payAt l n.toNat).st = 1
  · obtain ⟨i, rfl⟩ : ∃ i : Nat, n = i := ⟨n.toNat, by omega⟩
    have e1 : settleH h l i = h.move (payAt l i).frm (payAt l i).to (payAt l i).amt := by rw [settleH, if_pos hn]; simp
    have e2 : settleL l i = settled l i := by rw [settleL, if_pos hn]; simp
    rw [e1, e2]
    exact (settle_yes h l a cap i w hp hr (by omega) (by simpa using hn.2.2)).mono fun e w' ⟨⟨a', cap', he, hp', _⟩, hb⟩ => ⟨⟨a', cap', he, hp'⟩, hb⟩
  · have e1 : settleH h l n = h := by rw [settleH, if_neg hn]
    have e2 : settleL l n = l := by rw [settleL, if_neg hn]
    rw [e1, e2]
    exact (settle_no h l a cap n w hp hn).mono fun e w' ⟨he, hb⟩ => ⟨⟨a, cap, he, hp.below hb⟩, hb⟩
end Go.Proofs.Ytggfdkkhlokmlac

namespace Go.Proofs.Ytggfdkkhlokmlac
open Go.RowKit
attribute [local go_sem] hc_pays hc_next hc_size pc_0 pc_1 pc_2 pc_3 pc_4 pc_5
end Go.Proofs.Ytggfdkkhlokmlac

namespace Go.Proofs.Ytggfdkkhlokmlac
open Go.RowKit
attribute [local go_sem] hc_pays pc_0 pc_1 pc_2 pc_3 pc_4 pc_5
theorem nats_mem {x : Nat} {xs : List Nat} : (x : Int) ∈ nats xs ↔ x ∈ xs := by
  simp only [nats, List.mem_map]
  exact ⟨fun ⟨y, hy, e⟩ => by have : y = x := by omega
                              exact this ▸ hy, fun h => ⟨x, h, rfl⟩⟩
theorem nats_snoc (xs : List Nat) (x : Nat) : nats (xs ++ [x]) = nats xs ++ [(x : Int)] := by simp [nats]
theorem OwnInts.grownO {w w' : World} {base : Nat} {v : Value} {l : List Int} {g : Nat} (h : OwnInts w base v l) (hg : w.grownBy w' (some g)) (hne : g < base) : OwnInts w' base v l := by
  obtain ⟨⟨hlen, hv⟩, hroom⟩ := h
  refine ⟨⟨hlen, ?_⟩, hroom⟩
  rcases hv with h0 | ⟨g', cap, cur, rfl, hb', hg', hrest⟩
  · exact .inl h0
  · exact .inr ⟨g', cap, cur, rfl, hb', (hg.block _ (hlt hg') (by simp; omega)).trans hg', hrest⟩
end Go.Proofs.Ytggfdkkhlokmlac

