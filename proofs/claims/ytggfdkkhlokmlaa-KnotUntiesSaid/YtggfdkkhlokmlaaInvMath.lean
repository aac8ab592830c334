/- A house at work: what holds of it whatever is done; plain Lean. -/
import Derived.Test.YtggfdkkhlokmlaaKnotMath
namespace Go.Proofs.Ytggfdkkhlokmlaa

/-- Numbers within 2^40, and k payments more. -/
structure Near (h : Hs) (k : Int) : Prop where
  has : ∀ i, 0 ≤ i → i < 4 → -(1099511627776 + 1000000 * k) ≤ h.has i ∧ h.has i ≤ 1099511627776 + 1000000 * k
  cr : ∀ i, 0 ≤ i → i < 4 → 0 ≤ h.cr i ∧ h.cr i ≤ 1000000
  sent : ∀ i j, 0 ≤ i → i < 4 → 0 ≤ j → j < 4 → 0 ≤ h.sent i j ∧ h.sent i j ≤ 1099511627776 + 1000000 * k
theorem Near.move {h : Hs} {k : Int} (hn : Near h k) (_h0 : 0 ≤ k) (f t a : Int) : Near (h.move f t a) (k + 1) := by
  cases hs : sends f t a with
  | false =>
    have e : h.move f t a = h := by simp [Hs.move, hs]
    rw [e]
    exact ⟨fun i h0 h1 => by have := hn.has i h0 h1; omega, hn.cr, fun i j h0 h1 h2 h3 => by have := hn.sent i j h0 h1 h2 h3; omega⟩
  | true =>
    have hs := sends_true.1 hs
    refine ⟨fun i h0 h1 => ?_, fun i h0 h1 => by rw [move_cr]; exact hn.cr i h0 h1, fun i j h0 h1 h2 h3 => ?_⟩
    · have b1 := hn.has i h0 h1
      have b2 := hn.has t hs.t0 hs.t1
      have b3 := hn.has f hs.f0 hs.f1
      have := hs.a0; have := hs.a1
      rw [move_has hs]
      split
      · omega
      · split <;> omega
    · have b1 := hn.sent i j h0 h1 h2 h3
      have b2 := hn.sent f t hs.f0 hs.f1 hs.t0 hs.t1
      have := hs.a0; have := hs.a1
      rw [move_sent hs]
      split <;> omega
theorem Near.mono {h : Hs} {k m : Int} (hn : Near h k) (hk : k ≤ m) : Near h m :=
  ⟨fun i h0 h1 => by have := hn.has i h0 h1; omega, hn.cr, fun i j h0 h1 h2 h3 => by have := hn.sent i j h0 h1 h2 h3; omega⟩
theorem Near.room {h : Hs} {k : Int} (hn : Near h k) (hk : k ≤ 1000000) : h.Room where
  has := fun i h0 h1 => by have := hn.has i h0 h1; omega
  cr := hn.cr
  sent := fun i j h0 h1 h2 h3 => by have := hn.sent i j h0 h1 h2 h3; omega
theorem Near.moves {l : List Pay} : ∀ (xs : List Nat) {h : Hs} {k : Int}, Near h k → 0 ≤ k → Near (moves l xs h) (k + xs.length)
  | [], _, _, hn, _ => by simpa [Go.Proofs.Ytggfdkkhlokmlaa.moves] using hn
  | i :: xs, _, k, hn, h0 => by
    have := Near.moves (l := l) xs (hn.move h0 (payAt l i).frm (payAt l i).to (payAt l i).amt) (by omega)
    simp only [Go.Proofs.Ytggfdkkhlokmlaa.moves, List.length_cons]
    exact this.mono (by omega)
theorem firsts_len (l : List Pay) (n : Int → Nat) : (firsts l n 4).length ≤ 4 * l.length := by
  have h : ∀ b m, ((ofL l b).take m).length ≤ l.length := fun b m => by
    have := ofL_len l b
    rw [List.length_take]; omega
  simp only [firsts, List.nil_append, List.length_append]
  have := h ((0 : Nat) : Int) (n ((0 : Nat) : Int))
  have := h ((1 : Nat) : Int) (n ((1 : Nat) : Int))
  have := h ((2 : Nat) : Int) (n ((2 : Nat) : Int))
  have := h ((3 : Nat) : Int) (n ((3 : Nat) : Int))
  omega

/-! ### a good house -/
theorem goodPay_sends {p : Pay} (h : goodPay p = true) : Sends p.frm p.to p.amt := by
  simp only [goodPay, Bool.and_eq_true, Bool.not_eq_true', beq_eq_false_iff_ne, decide_eq_true_eq] at h
  obtain ⟨⟨⟨⟨⟨⟨h1, h2⟩, h3⟩, h4⟩, h5⟩, h6⟩, h7⟩ := h
  have h1 := sm_true h1; have h2 := sm_true h2; have h4 := sm_true h4
  exact ⟨by omega, by omega, by omega, by omega, h3, by omega, by omega⟩
theorem goodPay_iff {p : Pay} : goodPay p = true ↔ Sends p.frm p.to p.amt ∧ 0 ≤ p.cls ∧ p.cls ≤ 2 ∧ 1 ≤ p.st ∧ p.st ≤ 3 ∧ 0 ≤ p.seq := by
  constructor
  · intro h
    have hs := goodPay_sends h
    simp only [goodPay, Bool.and_eq_true, Bool.not_eq_true', beq_eq_false_iff_ne, decide_eq_true_eq] at h
    obtain ⟨⟨⟨⟨⟨⟨h1, h2⟩, h3⟩, h4⟩, h5⟩, h6⟩, h7⟩ := h
    have h5 := sm_true h5; have h6 := sm_true h6
    exact ⟨hs, by omega, by omega, by omega, by omega, h7⟩
  · rintro ⟨hs, h1, h2, h3, h4, h5⟩
    have := hs.f0; have := hs.f1; have := hs.t0; have := hs.t1
    simp only [goodPay, Bool.and_eq_true, Bool.not_eq_true', beq_eq_false_iff_ne, decide_eq_true_eq]
    exact ⟨⟨⟨⟨⟨⟨sm_yes (by omega), sm_yes (by omega)⟩, hs.ne⟩, sm_yes ⟨hs.a0, hs.a1⟩⟩, sm_yes (by omega)⟩, sm_yes (by omega)⟩, h5⟩
theorem GoodP.allPay {h : Hs} {l : List Pay} (g : GoodP h l) : AllPay l := fun _ hi => goodPay_sends (g.pays _ (payAt_mem hi)).1
end Go.Proofs.Ytggfdkkhlokmlaa
