/- A book that was cut; a bank at work: plain Lean. -/
import Derived.Test.YtggfdkkhlokmlaaBankMath
namespace Go.Proofs.Ytggfdkkhlokmlaa

theorem oneL_app {x : Deed} (hn : noted x = true) (t : List UInt8) : oneL (frame x ++ t) = some (x, (frame x).length) :=
  oneL_of ⟨hn, by rw [List.take_append_of_le_length (Nat.le_refl _), List.take_length]⟩
theorem rd_cons {x : Deed} (hn : noted x = true) (t : List UInt8) : rd (frame x ++ t) = (x :: (rd t).1, (frame x).length + (rd t).2) := by
  rw [rd_some (oneL_app hn t), List.drop_append_of_le_length (Nat.le_refl _), List.drop_length, List.nil_append]
theorem text_cons (x : Deed) (l : List Deed) : text (x :: l) = frame x ++ text l := by simp [text]
theorem text_app (l k : List Deed) : text (l ++ k) = text l ++ text k := by simp [text]
theorem text_one (x : Deed) : text [x] = frame x := by simp [text]
theorem rd_app : ∀ (l : List Deed) (t : List UInt8), (∀ x ∈ l, noted x = true) → rd (text l ++ t) = (l ++ (rd t).1, (text l).length + (rd t).2)
  | [], t, _ => by simp [text]
  | x :: l, t, h => by
    rw [text_cons, List.append_assoc, rd_cons (h x (by simp)), rd_app l t fun y hy => h y (by simp [hy])]
    simp [Nat.add_assoc]
/-- A part of a frame is none. -/
theorem oneL_part {x : Deed} (hn : noted x = true) {k : Nat} (hk : k < (frame x).length) : oneL ((frame x).take k) = none := by
  cases h : oneL ((frame x).take k) with
  | none => rfl
  | some q =>
    obtain ⟨y, m⟩ := q
    obtain ⟨⟨hy, hf⟩, hm, hle⟩ := oneL_sound h
    exfalso
    have hb := body_len hn
    have hb' := body_len hy
    rw [List.length_take] at hle
    rw [List.take_take, Nat.min_eq_left (by omega)] at hf
    have h3 : 0 < (frame y).length := by rw [frame_len]; omega
    have h0 : (frame y)[0]? = (frame x)[0]? := by rw [hf, List.getElem?_take_of_lt h3]
    have e : UInt8.ofNat (body y).length = UInt8.ofNat (body x).length := by simpa [frame] using h0
    have e' := congrArg UInt8.toNat e
    rw [ofNat_small (by omega), ofNat_small (by omega)] at e'
    have h1 := frame_len x
    have h2 := frame_len y
    omega
theorem rd_part {x : Deed} (hn : noted x = true) {k : Nat} (hk : k < (frame x).length) : rd ((frame x).take k) = ([], 0) := rd_none (oneL_part hn hk)
theorem rd_whole (l : List Deed) (h : ∀ x ∈ l, noted x = true) : rd (text l) = (l, (text l).length) := by
  have := rd_app l [] h
  rw [List.append_nil, rd_none (s := []) rfl] at this
  simpa using this
/-- What is read of a book of which the last frame may be cut. -/
theorem rd_cut (l : List Deed) (h : ∀ x ∈ l, noted x = true) {x : Deed} (hn : noted x = true) {k : Nat} (hk : k < (frame x).length) : rd (text l ++ (frame x).take k) = (l, (text l).length) := by
  rw [rd_app l _ h, rd_part hn hk]; simp
/-- How many frames stand whole within the first cut bytes. -/
def wholes : List Deed → Nat → Nat
  | [], _ => 0
  | x :: l, cut => if (frame x).length ≤ cut then wholes l (cut - (frame x).length) + 1 else 0
theorem wholes_le : ∀ (l : List Deed) (cut : Nat), wholes l cut ≤ l.length
  | [], _ => Nat.le_refl _
  | x :: l, cut => by
    simp only [wholes]
    split
    · have := wholes_le l (cut - (frame x).length); simp; omega
    · simp
theorem rd_wholes : ∀ (l : List Deed) (cut : Nat), (∀ x ∈ l, noted x = true) → rd ((text l).take cut) = (l.take (wholes l cut), (text (l.take (wholes l cut))).length)
  | [], cut, _ => by simp [text, wholes]; exact rd_none rfl
  | x :: l, cut, h => by
    have hx := h x (by simp)
    rw [text_cons]
    simp only [wholes]
    split
    · rename_i hc
      rw [List.take_append, List.take_of_length_le hc, rd_cons hx, rd_wholes l _ fun y hy => h y (by simp [hy])]
      simp [text_cons]
    · rename_i hc
      rw [List.take_append_of_le_length (by omega), rd_part hx (by omega)]
      simp [text]
/-- The ends of the frames. -/
theorem wholes_end : ∀ (l : List Deed) (cut i : Nat), i < l.length → ((text (l.take (i + 1))).length ≤ cut ↔ i < wholes l cut)
  | [], _, _, h => by simp at h
  | x :: l, cut, 0, _ => by
    simp only [List.take_succ_cons, List.take_zero, text_one, wholes]
    split
    · rename_i hc; exact ⟨fun _ => by omega, fun _ => hc⟩
    · rename_i hc; exact ⟨fun h => absurd h hc, fun h => by omega⟩
  | x :: l, cut, i + 1, h => by
    have ih := wholes_end l (cut - (frame x).length) i (by simpa using h)
    simp only [List.take_succ_cons, text_cons, List.length_append, wholes] at ih ⊢
    split
    · rename_i hc; rw [Nat.add_lt_add_iff_right, ← ih]; omega
    · rename_i hc; constructor
      · intro h'; omega
      · intro h'; omega

/-! ### a bank at work -/
structure Bk where
  h : Hs
  l : List Pay
  text : List UInt8
  down : Bool
  fail : Int
  acts : Nat
structure Rp where
  code : Int
  n : Int
  done : List Nat
def Rp.no (c : Int) : Rp := ⟨c, 0, []⟩
def Bk.new : Bk := ⟨Hs.new, [], [], false, -1, 0⟩
noncomputable def replayFrom (s : Hs × List Pay) (l : List Deed) : Hs × List Pay := l.foldl (fun s a => ((nextL s.1 s.2 a).h, (nextL s.1 s.2 a).l)) s
noncomputable def replayL (l : List Deed) : Hs × List Pay := replayFrom (Hs.new, []) l
theorem replay_snoc (l : List Deed) (a : Deed) : replayL (l ++ [a]) = ((nextL (replayL l).1 (replayL l).2 a).h, (nextL (replayL l).1 (replayL l).2 a).l) := by
  simp [replayL, replayFrom]
/-- The bank behind its count. -/
def Bk.tick (B : Bk) : Bk := { B with acts := B.acts + 1 }
/-- P5.7 to P5.9. -/
noncomputable def doL (B : Bk) (a : Deed) : Bk × Rp :=
  if 200 ≤ B.acts then (B, .no 5)
  else if a.kind = 11 then
    if B.down = false then (B.tick, .no 2)
    else ({ B.tick with h := (replayL (rd B.text).1).1, l := (replayL (rd B.text).1).2, text := B.text.take (rd B.text).2, down := false }, ⟨0, (rd B.text).1.length, []⟩)
  else if B.down = true then (B.tick, .no 7)
  else if a.kind = 10 then
    if sm 0 a.n 4000 = false then (B.tick, .no 3) else ({ B.tick with fail := a.n }, .no 0)
  else if (nextL B.h B.l a).code ≠ 0 then (B.tick, .no (nextL B.h B.l a).code)
  else if noted a = false then (B.tick, .no 3)
  else if 4000 < B.text.length + (frame a).length then (B.tick, .no 5)
  else if 0 ≤ B.fail then ({ B.tick with text := B.text ++ (frame a).take (min B.fail.toNat (frame a).length), fail := -1, down := true }, .no 7)
  else ({ B.tick with text := B.text ++ frame a, h := (nextL B.h B.l a).h, l := (nextL B.h B.l a).l }, ⟨0, (nextL B.h B.l a).n, (nextL B.h B.l a).done⟩)
theorem next_refused {h : Hs} {l : List Pay} {a : Deed} (hc : (nextL h l a).code ≠ 0) : (nextL h l a).h = h ∧ (nextL h l a).l = l ∧ (nextL h l a).n = 0 ∧ (nextL h l a).done = [] := by
  have hx := next_case h l a
  revert hx hc
  generalize nextL h l a = x
  intro hc hx
  cases hx <;> first | exact ⟨rfl, rfl, rfl, rfl⟩ | exact absurd rfl hc
/-- What holds of a bank at work: its house is what its log makes; log: what was written down whole. -/
structure Work (B : Bk) (log : List Deed) : Prop where
  noted : ∀ x ∈ log, noted x = true
  house : replayL log = (B.h, B.l)
  up : B.down = false → B.text = text log
  cut : B.down = true → ∃ (x : Deed) (k : Nat), Go.Proofs.Ytggfdkkhlokmlaa.noted x = true ∧ (nextL B.h B.l x).code = 0 ∧ k ≤ (frame x).length ∧ B.text = text log ++ (frame x).take k
  small : B.text.length ≤ 4000
  acts : B.acts ≤ 200
theorem good3_replay : ∀ (l : List Deed) (s : Hs × List Pay), Good3 s.1 s.2 → Good3 (replayFrom s l).1 (replayFrom s l).2
  | [], _, h => h
  | a :: l, _, h => good3_replay l _ (h.next a)
theorem Work.good {B : Bk} {log : List Deed} (k : Work B log) : Good3 B.h B.l := by
  have := good3_replay log (Hs.new, []) good3_new
  rw [show replayFrom (Hs.new, []) log = replayL log from rfl, k.house] at this
  exact this
theorem work_new : Work Bk.new [] := ⟨by simp, rfl, fun _ => rfl, (fun h => by cases h), by simp [Bk.new], by simp [Bk.new]⟩
theorem Work.tick {B : Bk} {log : List Deed} (k : Work B log) (h : ¬ 200 ≤ B.acts) : Work B.tick log := ⟨k.noted, k.house, k.up, k.cut, k.small, by simp only [Bk.tick]; omega⟩
end Go.Proofs.Ytggfdkkhlokmlaa
