/- The least of those that are left, again and again: plain Lean. -/
import Derived.Test.YtggfdkkhlokmlaaQueueMath
import Derived.Test.YtggfdkkhlokmlaaInts
namespace Go.Proofs.Ytggfdkkhlokmlaa
open Go.RowKit

/-- out: what j rounds have picked. -/
structure Sel (l : List Pay) (bank : Int) (out : List Nat) (j : Nat) : Prop where
  nodup : out.Nodup
  sub : ∀ x ∈ out, x ∈ waits l bank
  sorted : out.Pairwise fun i k => leB l i k = true
  low : ∀ x ∈ out, ∀ y ∈ waits l bank, y ∉ out → leB l x y = true
  prog : out.length = j ∨ ∀ y ∈ waits l bank, y ∈ out
/-- b: the least among the first i that wait and are not picked; -1: there is none. -/
def Best (l : List Pay) (bank : Int) (out : List Nat) (i : Nat) (b : Int) : Prop :=
  (b = -1 ∧ ∀ k, k < i → k ∈ waits l bank → k ∈ out) ∨ (∃ m : Nat, b = m ∧ m < i ∧ m ∈ waits l bank ∧ m ∉ out ∧ ∀ k, k < i → k ∈ waits l bank → k ∉ out → leB l m k = true)
theorem Sel.zero (l : List Pay) (bank : Int) : Sel l bank [] 0 := ⟨List.nodup_nil, by simp, List.Pairwise.nil, by simp, .inl rfl⟩
theorem Sel.none {l : List Pay} {bank : Int} {out : List Nat} {j : Nat} (h : Sel l bank out j) (hb : Best l bank out l.length (-1)) : Sel l bank out (j + 1) := by
  rcases hb with ⟨_, hb⟩ | ⟨m, e, _⟩
  · exact ⟨h.nodup, h.sub, h.sorted, h.low, .inr fun y hy => hb y (waits_mem.1 hy).1 hy⟩
  · omega
theorem Sel.some {l : List Pay} {bank : Int} {out : List Nat} {j m : Nat} (h : Sel l bank out j) (hb : Best l bank out l.length m) : m < l.length ∧ m ∉ out ∧ Sel l bank (out ++ [m]) (j + 1) := by
  rcases hb with ⟨e, _⟩ | ⟨m', e, hm, hw, ho, hb⟩
  · omega
  · have e : m = m' := by omega
    subst e
    refine ⟨hm, ho, ⟨?_, ?_, ?_, ?_, ?_⟩⟩
    · rw [List.nodup_append]
      refine ⟨h.nodup, by simp, fun a ha b hb' e => ho ?_⟩
      simp only [List.mem_singleton] at hb'
      rw [← hb', ← e]; exact ha
    · intro x hx
      rcases List.mem_append.1 hx with hx | hx
      · exact h.sub x hx
      · simp only [List.mem_singleton] at hx; rw [hx]; exact hw
    · rw [List.pairwise_append]
      refine ⟨h.sorted, by simp, fun a ha b hb' => ?_⟩
      simp only [List.mem_singleton] at hb'
      rw [hb']; exact h.low a ha m hw ho
    · intro x hx y hy hy'
      simp only [List.mem_append, List.mem_singleton, not_or] at hx hy'
      rcases hx with hx | hx
      · exact h.low x hx y hy hy'.1
      · rw [hx]; exact hb y (waits_mem.1 hy).1 hy hy'.1
    · rcases h.prog with h' | h'
      · exact .inl (by simp [h'])
      · exact absurd (h' m hw) ho
theorem len_of_sub : ∀ {xs ys : List Nat}, xs.Nodup → (∀ x ∈ xs, x ∈ ys) → xs.length ≤ ys.length
  | [], _, _, _ => Nat.zero_le _
  | x :: xs, ys, hn, h => by
    obtain ⟨h1, h2⟩ := List.nodup_cons.1 hn
    have hx := h x (by simp)
    have ih := len_of_sub (xs := xs) (ys := ys.erase x) h2 fun y hy => (List.mem_erase_of_ne (show y ≠ x from fun e => h1 (e ▸ hy))).2 (h y (by simp [hy]))
    rw [List.length_erase_of_mem hx] at ih
    have := List.length_pos_of_mem hx
    simp only [List.length_cons]
    omega
theorem Sel.len {l : List Pay} {bank : Int} {out : List Nat} {j : Nat} (h : Sel l bank out j) : out.length ≤ l.length := Nat.le_trans (len_of_sub h.nodup h.sub) (waits_len l bank)
theorem Sel.is {l : List Pay} {bank : Int} {out : List Nat} (h : Sel l bank out l.length) : IsQueue l bank out := by
  refine ⟨?_, h.sorted⟩
  rw [List.perm_ext_iff_of_nodup h.nodup (waits_nodup l bank)]
  intro a
  refine ⟨h.sub a, fun ha => ?_⟩
  rcases h.prog with h' | h'
  · refine Classical.byContradiction fun hn => ?_
    have := len_of_sub (xs := a :: out) (ys := waits l bank) (List.nodup_cons.2 ⟨hn, h.nodup⟩) (fun x hx => by
      rcases List.mem_cons.1 hx with rfl | hx
      · exact ha
      · exact h.sub x hx)
    have h2 := waits_len l bank
    simp only [List.length_cons] at this
    omega
  · exact h' a ha
theorem Best.zero (l : List Pay) (bank : Int) (out : List Nat) : Best l bank out 0 (-1) := .inl ⟨rfl, fun k hk => by omega⟩
theorem lt_split {i k : Nat} (h : k < i + 1) : k < i ∨ k = i := by omega
theorem Best.skip {l : List Pay} {bank : Int} {out : List Nat} {i : Nat} {b : Int} (h : Best l bank out i b) (hi : i ∈ waits l bank → i ∈ out) : Best l bank out (i + 1) b := by
  rcases h with ⟨e, h⟩ | ⟨m, e, hm, hw, ho, h⟩
  · exact .inl ⟨e, fun k hk hk' => (lt_split hk).elim (fun hk => h k hk hk') fun hk => hk ▸ hi (hk ▸ hk')⟩
  · exact .inr ⟨m, e, by omega, hw, ho, fun k hk hk' hko => (lt_split hk).elim (fun hk => h k hk hk' hko) fun hk => absurd (hi (hk ▸ hk')) (hk ▸ hko)⟩
theorem leB_refl (l : List Pay) (i : Nat) : leB l i i = true := by simp [leB, leP]
theorem Best.new {l : List Pay} {bank : Int} {out : List Nat} {i : Nat} {b : Int} (h : Best l bank out i b) (hb : b < 0) (hw : i ∈ waits l bank) (ho : i ∉ out) : Best l bank out (i + 1) i := by
  rcases h with ⟨e, h⟩ | ⟨m, e, _⟩
  · exact .inr ⟨i, rfl, by omega, hw, ho, fun k hk hk' hko => (lt_split hk).elim (fun hk => absurd (h k hk hk') hko) fun hk => hk ▸ leB_refl l i⟩
  · omega
theorem Best.less {l : List Pay} {bank : Int} {out : List Nat} {i m : Nat} (h : Best l bank out i m) (hl : leB l m i = false) (hw : i ∈ waits l bank) (ho : i ∉ out) : Best l bank out (i + 1) i := by
  rcases h with ⟨e, h⟩ | ⟨m', e, hm, hw', ho', h⟩
  · omega
  · have e : m = m' := by omega
    subst e
    refine .inr ⟨i, rfl, by omega, hw, ho, fun k hk hk' hko => (lt_split hk).elim (fun hk => ?_) fun hk => hk ▸ leB_refl l i⟩
    have h1 := h k hk hk' hko
    have h2 := leP_total (payAt l m) (payAt l i)
    have h3 : leP (payAt l m) (payAt l i) = false := hl
    rw [h3, Bool.false_or] at h2
    exact leP_trans _ _ _ h2 h1
theorem Best.stay {l : List Pay} {bank : Int} {out : List Nat} {i m : Nat} (h : Best l bank out i m) (hl : leB l m i = true) : Best l bank out (i + 1) m := by
  rcases h with ⟨e, h⟩ | ⟨m', e, hm, hw', ho', h⟩
  · omega
  · have e : m = m' := by omega
    subst e
    exact .inr ⟨m, rfl, by omega, hw', ho', fun k hk hk' hko => (lt_split hk).elim (fun hk => h k hk hk' hko) fun hk => hk ▸ hl⟩
theorem Best.at_ {l : List Pay} {bank : Int} {out : List Nat} {i : Nat} {b : Int} (h : Best l bank out i b) (h0 : i ≤ l.length) : (b = -1) ∨ ∃ m : Nat, b = m ∧ m < l.length := by
  rcases h with ⟨e, _⟩ | ⟨m, e, hm, _⟩
  · exact .inl e
  · exact .inr ⟨m, e, by omega⟩
theorem alloc_sz (w : World) (o : Obj) : (w.alloc o).heap.size = w.heap.size + 1 := by simp
/-- Indexes as ints. -/
def nats (xs : List Nat) : List Int := xs.map fun x : Nat => (x : Int)
theorem nats_len (xs : List Nat) : (nats xs).length = xs.length := by simp [nats]
/-- What a bank's queue answers. -/
def QPost (l : List Pay) (bank : Int) (w : World) (e : Ending) (w' : World) : Prop := (∃ v xs, e = .returned v ∧ IsQueue l bank xs ∧ OwnInts w' w.heap.size v (nats xs)) ∧ Below w.heap.size w w'
end Go.Proofs.Ytggfdkkhlokmlaa
