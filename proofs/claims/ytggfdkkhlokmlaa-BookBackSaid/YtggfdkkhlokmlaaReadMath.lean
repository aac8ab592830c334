/- The reference's reading of a frame, in plain Lean. -/
import Derived.Test.YtggfdkkhlokmlaaRef3
namespace Go.Proofs.Ytggfdkkhlokmlaa

/-- The reference's number at the front: at most f bytes that go on, no rule of the shortest form. -/
def rdec : Nat → List UInt8 → Option (Nat × Nat)
  | _, [] => none
  | 0, c :: _ => if c.toNat < 128 then some (c.toNat, 1) else none
  | f + 1, c :: t => if c.toNat < 128 then some (c.toNat, 1) else (rdec f t).map fun x => (c.toNat - 128 + 128 * x.1, x.2 + 1)
theorem rdec_dec : ∀ (f : Nat) (b : Bool) (s : List UInt8) (r : Nat × Nat) (g : Nat), f ≤ g + 1 → dec f b s = some r → rdec g s = some r
  | 0, b, s, r, g, _, h => by cases s <;> simp [dec] at h
  | f + 1, b, [], r, g, _, h => by simp [dec] at h
  | f + 1, b, c :: t, r, g, hg, h => by
    simp only [dec] at h
    by_cases h1 : c.toNat < 128
    · rw [if_pos h1] at h
      have h2 : r = (c.toNat, 1) := by
        revert h
        split
        · intro h; simp at h
        · intro h; simpa using h.symm
      cases g <;> simp [rdec, h1, h2]
    · rw [if_neg h1] at h
      obtain ⟨y, hy, rfl⟩ := Option.map_eq_some_iff.1 h
      cases g with
      | zero =>
        have : f = 0 := by omega
        subst this
        cases t <;> simp [dec] at hy
      | succ g =>
        have ih := rdec_dec f false t y g (by omega) hy
        simp [rdec, h1, ih]
def rdec1 (s : List UInt8) : Option (Int × List UInt8) := (rdec 6 s).map fun x => (zag x.1, s.drop x.2)
theorem rdec1_dec1 {s : List UInt8} {r : Int × List UInt8} (h : dec1 s = some r) : rdec1 s = some r := by
  simp only [dec1, Option.map_eq_some_iff] at h
  obtain ⟨y, hy, rfl⟩ := h
  simp [rdec1, rdec_dec 5 true s y 6 (by omega) hy]
/-- The first k numbers, as the reference reads them. -/
def rdecs : Nat → List UInt8 → Option (List Int × List UInt8)
  | 0, s => some ([], s)
  | k + 1, s => (rdecs k s).bind fun x => (rdec1 x.2).map fun y => (x.1 ++ [y.1], y.2)
theorem rdecs_decs : ∀ (k : Nat) (s : List UInt8) (r : List Int × List UInt8), decs k s = some r → rdecs k s = some r
  | 0, s, r, h => by simpa [decs, rdecs] using h
  | k + 1, s, r, h => by
    simp only [decs, Option.bind_eq_some_iff, Option.map_eq_some_iff] at h
    obtain ⟨x, h1, y, h2, rfl⟩ := h
    simp [rdecs, rdecs_decs k s x h1, rdec1_dec1 h2]
theorem rdecs_len : ∀ (k : Nat) (s r : List UInt8) (ns : List Int), rdecs k s = some (ns, r) → ns.length = k
  | 0, s, r, ns, h => by simp [rdecs] at h; simp [h.1]
  | k + 1, s, r, ns, h => by
    simp only [rdecs, Option.bind_eq_some_iff, Option.map_eq_some_iff, Prod.mk.injEq] at h
    obtain ⟨⟨ms, q⟩, h1, ⟨n, q'⟩, _, rfl, _⟩ := h
    simp [rdecs_len k s q ms h1]
theorem rdecs_dead (s : List UInt8) (k : Nat) (h : rdecs k s = none) : ∀ j, rdecs (k + j) s = none
  | 0 => h
  | j + 1 => by
    have := rdecs_dead s k h j
    show rdecs ((k + j) + 1) s = none
    simp [rdecs, this]
/-- A frame that stands in front is read by the reference's five numbers too. -/
theorem rdecs_of_one {c : UInt8} {t : List UInt8} {x : Deed} {k : Nat} (h : oneL (c :: t) = some (x, k)) :
    ∃ ns, rdecs 5 (t.take c.toNat) = some (ns, []) ∧ deedOf ns = x ∧ noted x = true ∧ frame x = (c :: t).take (c.toNat + 3) := by
  obtain ⟨⟨hn, hf⟩, hk, hle⟩ := oneL_sound h
  obtain ⟨hb5, hb25⟩ := body_len hn
  have hfl := frame_len x
  have hcons : frame x = UInt8.ofNat (body x).length :: (body x ++ [UInt8.ofNat (ck (body x)).1, UInt8.ofNat (ck (body x)).2]) := rfl
  have hf2 := hf
  rw [hfl, List.take_succ_cons, hcons, List.cons.injEq] at hf2
  obtain ⟨hc, ht⟩ := hf2
  have hcn : c.toNat = (body x).length := by rw [← hc]; exact ofNat_small (by omega)
  have hB : t.take c.toNat = body x := by
    have h1 := congrArg (List.take (body x).length) ht
    rw [List.take_take, List.take_left'] at h1
    · rw [Nat.min_eq_left (by omega)] at h1
      rw [hcn, ← h1]
    · rfl
  have h5 := dec5_of hn []
  rw [List.append_nil, dec5_decs] at h5
  obtain ⟨⟨ns, r⟩, h6, h7⟩ := Option.map_eq_some_iff.1 h5
  simp only [Prod.mk.injEq] at h7
  obtain ⟨h8, rfl⟩ := h7
  refine ⟨ns, by rw [hB]; exact rdecs_decs 5 _ _ h6, h8, hn, ?_⟩
  rw [hcn, ← hfl]; exact hf
theorem one_of_rdecs {c : UInt8} {t : List UInt8} (hl : c.toNat + 2 ≤ t.length) {x : Deed} (hn : noted x = true) (hf : frame x = (c :: t).take (c.toNat + 3)) : oneL (c :: t) = some (x, c.toNat + 3) := by
  have h1 : (frame x).length = c.toNat + 3 := by rw [hf, List.length_take]; simp; omega
  have h2 := oneL_of (s := c :: t) (x := x) ⟨hn, by rw [h1]; exact hf⟩
  rw [h1] at h2
  exact h2
end Go.Proofs.Ytggfdkkhlokmlaa
