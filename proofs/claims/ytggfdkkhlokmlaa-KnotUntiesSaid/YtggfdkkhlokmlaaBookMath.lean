/- The log's frames: plain lists of bytes, no program in sight. -/
namespace Go.Proofs.Ytggfdkkhlokmlaa
set_option linter.unusedVariables false

structure Deed where
  kind : Int
  a : Int
  b : Int
  c : Int
  n : Int
deriving DecidableEq, Inhabited

/-- Is the number of a size that is written down? -/
def notedN (n : Int) : Bool := decide (-1073741824 ≤ n ∧ n ≤ 1073741824)
def noted (x : Deed) : Bool := notedN x.kind && notedN x.a && notedN x.b && notedN x.c && notedN x.n

/-- A number's place among the naturals. -/
def zig (n : Int) : Nat := if 0 ≤ n then (2 * n).toNat else (-2 * n - 1).toNat
def zag (u : Nat) : Int := if u % 2 = 1 then -((u / 2 : Nat) : Int) - 1 else ((u / 2 : Nat) : Int)
theorem zag_zig (n : Int) : zag (zig n) = n := by
  unfold zag zig
  split <;> split <;> omega
theorem zig_zag (u : Nat) : zig (zag u) = u := by
  unfold zag zig
  split <;> split <;> omega
theorem zig_lt {n : Int} (h : notedN n = true) : zig n ≤ 2147483648 := by
  have := of_decide_eq_true h
  unfold zig
  split <;> omega

/-- Base 128, least digit first; all but the last digit are raised by 128. -/
def enc (u : Nat) : List UInt8 := if u < 128 then [UInt8.ofNat u] else UInt8.ofNat (128 + u % 128) :: enc (u / 128)
termination_by u
decreasing_by omega
theorem enc_small {u : Nat} (h : u < 128) : enc u = [UInt8.ofNat u] := by rw [enc, if_pos h]
theorem enc_big {u : Nat} (h : ¬ u < 128) : enc u = UInt8.ofNat (128 + u % 128) :: enc (u / 128) := by rw [enc, if_neg h]
theorem enc_ne (u : Nat) : enc u ≠ [] := by
  by_cases h : u < 128
  · rw [enc_small h]; simp
  · rw [enc_big h]; simp
theorem enc_len_pos (u : Nat) : 0 < (enc u).length := List.length_pos_iff.2 (enc_ne u)
theorem enc_len : ∀ (k u : Nat), u < 128 ^ (k + 1) → (enc u).length ≤ k + 1
  | 0, u, h => by rw [enc_small (by simpa using h)]; simp
  | k + 1, u, h => by
    by_cases h1 : u < 128
    · rw [enc_small h1]; simp
    · rw [enc_big h1]
      have h2 : u / 128 < 128 ^ (k + 1) := by
        rw [Nat.div_lt_iff_lt_mul (by omega)]
        rw [Nat.pow_succ] at h
        exact h
      have := enc_len k (u / 128) h2
      simp
      omega

/-- A number at the front of bytes: its value and how many bytes it has; at most 'fuel' bytes; no digit 0 at its end but as its only one. -/
def dec : Nat → Bool → List UInt8 → Option (Nat × Nat)
  | 0, _, _ => none
  | _ + 1, _, [] => none
  | f + 1, first, c :: s =>
    if c.toNat < 128 then (if first = false ∧ c.toNat = 0 then none else some (c.toNat, 1))
    else (dec f false s).map fun x => (c.toNat - 128 + 128 * x.1, x.2 + 1)
theorem ofNat_small {u : Nat} (h : u < 256) : (UInt8.ofNat u).toNat = u := by simp [UInt8.toNat_ofNat']; omega
/-- What is read at the front is just what would be written. -/
theorem dec_enc : ∀ (f : Nat) (first : Bool) (s : List UInt8) (u k : Nat), dec f first s = some (u, k) → (first = false → 0 < u) ∧ enc u = s.take k ∧ k ≤ f ∧ k ≤ s.length ∧ 0 < k
  | 0, _, _, _, _, h => by simp [dec] at h
  | f + 1, _, [], _, _, h => by simp [dec] at h
  | f + 1, first, c :: s, u, k, h => by
    have hc : c.toNat < 256 := c.toNat_lt
    unfold dec at h
    by_cases h1 : c.toNat < 128
    · rw [if_pos h1] at h
      by_cases h2 : first = false ∧ c.toNat = 0
      · rw [if_pos h2] at h; cases h
      · rw [if_neg h2] at h
        cases h
        refine ⟨fun e => ?_, ?_, by omega, by simp, by omega⟩
        · rcases Nat.eq_zero_or_pos c.toNat with h0 | h0
          · exact absurd ⟨e, h0⟩ h2
          · exact h0
        · rw [enc_small h1]
          simp
    · rw [if_neg h1] at h
      cases hd : dec f false s with
      | none => rw [hd] at h; cases h
      | some x =>
        obtain ⟨v, j⟩ := x
        rw [hd] at h
        simp only [Option.map_some, Option.some.injEq, Prod.mk.injEq] at h
        obtain ⟨rfl, rfl⟩ := h
        obtain ⟨i1, i2, i3, i4, i5⟩ := dec_enc f false s v j hd
        have hv := i1 rfl
        refine ⟨fun _ => by omega, ?_, by omega, by simp; omega, by omega⟩
        rw [enc_big (by omega)]
        have e1 : (c.toNat - 128 + 128 * v) % 128 = c.toNat - 128 := by omega
        have e2 : (c.toNat - 128 + 128 * v) / 128 = v := by omega
        rw [e1, e2, i2, show 128 + (c.toNat - 128) = c.toNat from by omega]
        simp
/-- What is written is read. -/
theorem dec_of_enc : ∀ (f : Nat) (first : Bool) (u : Nat) (s : List UInt8), u < 128 ^ (f + 1) → (first = false → 0 < u) → dec (f + 1) first (enc u ++ s) = some (u, (enc u).length) := by
  intro f
  induction f with
  | zero =>
    intro first u s h h0
    have h1 : u < 128 := by simpa using h
    rw [enc_small h1]
    have e : (UInt8.ofNat u).toNat = u := ofNat_small (by omega)
    simp only [List.cons_append, List.nil_append, dec, e, if_pos h1]
    rw [if_neg (fun hh => by have := h0 hh.1; omega)]
    rfl
  | succ f ih =>
    intro first u s h h0
    by_cases h1 : u < 128
    · rw [enc_small h1]
      have e : (UInt8.ofNat u).toNat = u := ofNat_small (by omega)
      rw [List.cons_append, List.nil_append, dec, e, if_pos h1, if_neg (fun hh => by have := h0 hh.1; omega)]
      rfl
    · rw [enc_big h1]
      have e : (UInt8.ofNat (128 + u % 128)).toNat = 128 + u % 128 := ofNat_small (by omega)
      have ih := ih false (u / 128) s (by
        rw [Nat.div_lt_iff_lt_mul (by omega)]
        rw [Nat.pow_succ] at h
        exact h) (fun _ => by omega)
      rw [List.cons_append, dec, e, if_neg (by omega), ih]
      simp
      omega

/-- The checksum: two sums. -/
def ckStep (s : Nat × Nat) (c : UInt8) : Nat × Nat := ((s.1 + c.toNat) % 251, (s.2 + (s.1 + c.toNat) % 251) % 251)
def ck (l : List UInt8) : Nat × Nat := l.foldl ckStep (1, 0)
def ckuStep (s : Nat × Nat) (c : UInt8) : Nat × Nat := (s.1 + c.toNat, s.2 + (s.1 + c.toNat))
def cku (l : List UInt8) : Nat × Nat := l.foldl ckuStep (1, 0)
theorem ck_go (l : List UInt8) : ∀ s t : Nat × Nat, s.1 = t.1 % 251 → s.2 = t.2 % 251 → (l.foldl ckStep s).1 = (l.foldl ckuStep t).1 % 251 ∧ (l.foldl ckStep s).2 = (l.foldl ckuStep t).2 % 251 := by
  induction l with
  | nil => intro s t h1 h2; exact ⟨h1, h2⟩
  | cons c l ih =>
    intro s t h1 h2
    refine ih _ _ ?_ ?_
    · simp only [ckStep, ckuStep]; omega
    · simp only [ckStep, ckuStep]; omega
theorem ck_cku (l : List UInt8) : (ck l).1 = (cku l).1 % 251 ∧ (ck l).2 = (cku l).2 % 251 := ck_go l _ _ rfl rfl
theorem ck_lt (l : List UInt8) : (ck l).1 < 251 ∧ (ck l).2 < 251 := by
  have := ck_cku l
  omega
theorem ck_snoc (l : List UInt8) (c : UInt8) : ck (l ++ [c]) = ckStep (ck l) c := by simp [ck]
theorem cku_snoc (l : List UInt8) (c : UInt8) : cku (l ++ [c]) = ckuStep (cku l) c := by simp [cku]

def body (x : Deed) : List UInt8 := enc (zig x.kind) ++ (enc (zig x.a) ++ (enc (zig x.b) ++ (enc (zig x.c) ++ enc (zig x.n))))
/-- The bytes of an act. -/
def frame (x : Deed) : List UInt8 := UInt8.ofNat (body x).length :: (body x ++ [UInt8.ofNat (ck (body x)).1, UInt8.ofNat (ck (body x)).2])
theorem noted_of {x : Deed} (h : noted x = true) : notedN x.kind = true ∧ notedN x.a = true ∧ notedN x.b = true ∧ notedN x.c = true ∧ notedN x.n = true := by
  simp only [noted, Bool.and_eq_true] at h
  exact ⟨h.1.1.1.1, h.1.1.1.2, h.1.1.2, h.1.2, h.2⟩
theorem zig_pow {n : Int} (h : notedN n = true) : zig n < 128 ^ (4 + 1) := by
  have := zig_lt h
  have e : (128 : Nat) ^ (4 + 1) = 34359738368 := by decide
  omega
theorem enc_zig_len {n : Int} (h : notedN n = true) : (enc (zig n)).length ≤ 5 := enc_len 4 _ (zig_pow h)
theorem body_len {x : Deed} (h : noted x = true) : 5 ≤ (body x).length ∧ (body x).length ≤ 25 := by
  obtain ⟨h1, h2, h3, h4, h5⟩ := noted_of h
  have a1 := enc_zig_len h1; have a2 := enc_zig_len h2; have a3 := enc_zig_len h3; have a4 := enc_zig_len h4; have a5 := enc_zig_len h5
  have b1 := enc_len_pos (zig x.kind); have b2 := enc_len_pos (zig x.a); have b3 := enc_len_pos (zig x.b); have b4 := enc_len_pos (zig x.c); have b5 := enc_len_pos (zig x.n)
  simp only [body, List.length_append]
  omega
theorem frame_len (x : Deed) : (frame x).length = (body x).length + 3 := by simp [frame]

/-- Five numbers, one behind the other. -/
def dec1 (s : List UInt8) : Option (Int × List UInt8) := (dec 5 true s).map fun x => (zag x.1, s.drop x.2)
def dec5 (s : List UInt8) : Option (Deed × List UInt8) :=
  (dec1 s).bind fun x1 => (dec1 x1.2).bind fun x2 => (dec1 x2.2).bind fun x3 => (dec1 x3.2).bind fun x4 => (dec1 x4.2).map fun x5 => (⟨x1.1, x2.1, x3.1, x4.1, x5.1⟩, x5.2)
theorem dec1_enc {s t : List UInt8} {n : Int} (h : dec1 s = some (n, t)) : s = enc (zig n) ++ t := by
  unfold dec1 at h
  cases hd : dec 5 true s with
  | none => rw [hd] at h; cases h
  | some x =>
    obtain ⟨u, k⟩ := x
    rw [hd] at h
    simp only [Option.map_some, Option.some.injEq, Prod.mk.injEq] at h
    obtain ⟨rfl, rfl⟩ := h
    obtain ⟨_, h2, _, _, _⟩ := dec_enc 5 true s u k hd
    rw [zig_zag, h2, List.take_append_drop]
theorem dec1_of_enc {n : Int} (h : notedN n = true) (t : List UInt8) : dec1 (enc (zig n) ++ t) = some (n, t) := by
  unfold dec1
  rw [dec_of_enc 4 true (zig n) t (zig_pow h) (by simp)]
  simp [zag_zig]
theorem dec5_enc {s t : List UInt8} {x : Deed} (h : dec5 s = some (x, t)) : s = body x ++ t := by
  unfold dec5 at h
  simp only [Option.bind_eq_some_iff, Option.map_eq_some_iff, Prod.mk.injEq] at h
  obtain ⟨⟨n1, s1⟩, h1, ⟨n2, s2⟩, h2, ⟨n3, s3⟩, h3, ⟨n4, s4⟩, h4, ⟨n5, s5⟩, h5, rfl, rfl⟩ := h
  simp only at h2 h3 h4 h5 ⊢
  rw [dec1_enc h1, dec1_enc h2, dec1_enc h3, dec1_enc h4, dec1_enc h5]
  simp [body]
theorem dec5_of {x : Deed} (h : noted x = true) (t : List UInt8) : dec5 (body x ++ t) = some (x, t) := by
  obtain ⟨h1, h2, h3, h4, h5⟩ := noted_of h
  simp only [dec5, body, List.append_assoc]
  rw [dec1_of_enc h1]; simp only [Option.bind_some]
  rw [dec1_of_enc h2]; simp only [Option.bind_some]
  rw [dec1_of_enc h3]; simp only [Option.bind_some]
  rw [dec1_of_enc h4]; simp only [Option.bind_some]
  rw [dec1_of_enc h5]
  rfl
/-- One frame at the front. -/
def oneL (s : List UInt8) : Option (Deed × Nat) :=
  match s with
  | [] => none
  | c :: t =>
    if t.length < c.toNat + 2 then none
    else if (t.drop c.toNat).take 2 = [UInt8.ofNat (ck (t.take c.toNat)).1, UInt8.ofNat (ck (t.take c.toNat)).2] then
      (match dec5 (t.take c.toNat) with
        | some (x, []) => if noted x then some (x, c.toNat + 3) else none
        | _ => none)
    else none
/-- What it means that the frame of an act stands at the front. -/
def HasFrame (s : List UInt8) (x : Deed) : Prop := noted x = true ∧ frame x = s.take (frame x).length
theorem oneL_sound {s : List UInt8} {x : Deed} {k : Nat} (h : oneL s = some (x, k)) : HasFrame s x ∧ k = (frame x).length ∧ k ≤ s.length := by
  unfold oneL at h
  match s, h with
  | c :: t, h =>
    simp only at h
    split at h
    · cases h
    · rename_i hlen
      split at h
      · rename_i hck
        split at h
        · rename_i y hd
          split at h
          · rename_i hn
            simp only [Option.some.injEq, Prod.mk.injEq] at h
            obtain ⟨rfl, rfl⟩ := h
            have hb := dec5_enc hd
            rw [List.append_nil] at hb
            have hbl : (body y).length = c.toNat := by rw [← hb, List.length_take]; omega
            refine ⟨⟨hn, ?_⟩, by rw [frame_len, hbl], by simp; omega⟩
            rw [frame_len, hbl]
            unfold frame
            rw [hbl, ← hb]
            rw [← hck]
            rw [show c.toNat + 3 = (c.toNat + 2) + 1 from by omega, List.take_succ_cons, List.take_add, UInt8.ofNat_toNat]
          · cases h
        · cases h
      · cases h
theorem oneL_of {s : List UInt8} {x : Deed} (h : HasFrame s x) : oneL s = some (x, (frame x).length) := by
  obtain ⟨hn, hf⟩ := h
  have hbl := body_len hn
  have hs : s = frame x ++ s.drop (frame x).length := by
    conv => lhs; rw [← List.take_append_drop (frame x).length s, ← hf]
  generalize s.drop (frame x).length = r at hs
  subst hs
  clear hf
  have hc : (UInt8.ofNat (body x).length).toNat = (body x).length := ofNat_small (by omega)
  have e1 : frame x ++ r = UInt8.ofNat (body x).length :: (body x ++ ([UInt8.ofNat (ck (body x)).1, UInt8.ofNat (ck (body x)).2] ++ r)) := by simp [frame]
  rw [e1]
  unfold oneL
  simp only [hc]
  rw [if_neg (by simp)]
  rw [List.take_append_of_le_length (Nat.le_refl _), List.take_length, List.drop_append_of_le_length (Nat.le_refl _), List.drop_length, List.nil_append]
  have hd := dec5_of hn []
  rw [List.append_nil] at hd
  rw [if_pos (by simp), hd]
  simp [hn, frame_len]
theorem HasFrame.unique {s : List UInt8} {x y : Deed} (hx : HasFrame s x) (hy : HasFrame s y) : x = y := by
  have h1 := oneL_of hx
  rw [oneL_of hy] at h1
  simp only [Option.some.injEq, Prod.mk.injEq] at h1
  exact h1.1.symm
theorem oneL_pos {s : List UInt8} {x : Deed} {k : Nat} (h : oneL s = some (x, k)) : 0 < k ∧ k ≤ s.length := by
  obtain ⟨h1, h2, h3⟩ := oneL_sound h
  rw [h2, frame_len]
  rw [h2, frame_len] at h3
  omega

/-- All frames at the front, one behind the other; how many bytes they are. -/
def rd (s : List UInt8) : List Deed × Nat :=
  match h : oneL s with
  | none => ([], 0)
  | some (x, k) => (x :: (rd (s.drop k)).1, k + (rd (s.drop k)).2)
termination_by s.length
decreasing_by all_goals (have := oneL_pos h; simp; omega)
theorem rd_none {s : List UInt8} (h : oneL s = none) : rd s = ([], 0) := by
  unfold rd
  split
  · rfl
  · rename_i h2; rw [h] at h2; cases h2
theorem rd_some {s : List UInt8} {x : Deed} {k : Nat} (h : oneL s = some (x, k)) : rd s = (x :: (rd (s.drop k)).1, k + (rd (s.drop k)).2) := by
  conv => lhs; unfold rd
  split
  · rename_i h2; rw [h] at h2; cases h2
  · rename_i h2; rw [h] at h2; cases h2; rfl
theorem rd_le (s : List UInt8) : (rd s).2 ≤ s.length := by
  cases h : oneL s with
  | none => rw [rd_none h]; simp
  | some x =>
    obtain ⟨x, k⟩ := x
    have h1 := oneL_pos h
    rw [rd_some h]
    have := rd_le (s.drop k)
    simp at this ⊢
    omega
termination_by s.length
decreasing_by (have := oneL_pos h; simp; omega)
/-- The text of acts. -/
def text (l : List Deed) : List UInt8 := l.flatMap frame
theorem rd_text (s : List UInt8) : text (rd s).1 = s.take (rd s).2 ∧ ∀ x ∈ (rd s).1, noted x = true := by
  cases h : oneL s with
  | none => rw [rd_none h]; simp [text]
  | some x =>
    obtain ⟨x, k⟩ := x
    obtain ⟨⟨hn, hf⟩, hk, hle⟩ := oneL_sound h
    have h1 := oneL_pos h
    obtain ⟨i1, i2⟩ := rd_text (s.drop k)
    rw [rd_some h]
    constructor
    · simp only [text, List.flatMap_cons] at i1 ⊢
      rw [i1, hf, ← hk, List.take_add]
    · intro y hy
      rcases List.mem_cons.1 hy with rfl | hy
      · exact hn
      · exact i2 y hy
termination_by s.length
decreasing_by (have := oneL_pos h; simp; omega)
end Go.Proofs.Ytggfdkkhlokmlaa
