/- What the statements of the whole ask of single acts: plain Lean. -/
import Derived.Test.YtggfdkkhlokmlacPlayMath
namespace Go.Proofs.Ytggfdkkhlokmlac
def act0 : Deed := ⟨0, 0, 0, 0, 0⟩
def act9 : Deed := ⟨9, 0, 0, 0, 0⟩
def act10 : Deed := ⟨10, 0, 0, 0, 0⟩
def act11 : Deed := ⟨11, 0, 0, 0, 0⟩
/-! ### a close -/
/-- What a close leaves. -/
theorem do_close {B : Bk} (g : goodB B.h B.l = true) (hc : (doL B act9).2.code = 0) : (doL B act9).1.h = B.h ∧ (doL B act9).1.l = B.l.map Pay.shut ∧ (doL B act9).2.n = ((waiting B.l : Nat) : Int) ∧ (doL B act9).2.done = [] := by
  have hs := shut_code g (a := act9) rfl
  have h := do_case B act9
  revert h hc
  generalize doL B act9 = x
  intro hc h
  cases h with
  | done h0 h1 h2 h3 h4 h5 h6 h7 => rw [hs]; exact ⟨rfl, rfl, rfl, rfl⟩
  | full h0 => cases hc
  | openUp h0 h1 h2 => cases hc
  | opened h0 h1 h2 => simp [act9] at h1
  | down h0 h1 h2 => cases hc
  | failBad h0 h1 => simp [act9] at h1
  | failSet h0 h1 => simp [act9] at h1
  | refused h0 h1 h2 h3 h4 => exact absurd hc h4
  | notNoted h0 h1 h2 => cases hc
  | bookFull h0 h1 h2 => cases hc
  | lost h0 h1 h2 => cases hc
theorem waiting_takeP {l : List Pay} {j : Nat} {p : Pay} (h : l[j]? = some p) : waiting (l.take (j + 1)) = waiting (l.take j) + (if p.st = 1 then 1 else 0) := by
  rw [List.take_add_one, h]
  simp only [Option.toList]
  unfold waiting
  rw [List.countP_append]
  simp [List.countP_cons]
/-! ### an act of no kind -/
theorem next_zero {h : Hs} {l : List Pay} (g : goodB h l = true) : nextL h l act0 = .err h l 2 := by
  unfold nextL
  rw [if_neg (by rw [g]; simp)]
  simp [act0]
theorem do_zero {B : Bk} (g : goodB B.h B.l = true) (h : B.acts < 200) : doL B act0 = (B.tick, .no (if B.down then 7 else 2)) := by
  unfold doL
  rw [if_neg (by omega), if_neg (by decide)]
  by_cases e : B.down = true
  · rw [if_pos e, if_pos e]
  · rw [if_neg e, if_neg e, if_neg (by decide), next_zero g, if_pos (by simp [Nx.err])]
    rfl
theorem do_last {B : Bk} (a : Deed) (h : B.acts = 200) : doL B a = (B, .no 5) := by
  unfold doL
  rw [if_pos (by omega)]
/-! ### a power failure, and the power back -/
theorem do_fail0 {B : Bk} (hd : B.down = false) (h : B.acts < 200) : doL B act10 = ({ B.tick with fail := 0 }, .no 0) := by
  unfold doL
  rw [if_neg (by omega), if_neg (by decide), if_neg (by rw [hd]; simp), if_pos (c := act10.kind = 10) rfl, if_neg (by decide)]
  rfl
/-- The close behind it: no room in the book, or the power goes; nothing of it is done. -/
theorem do_lose {B : Bk} {g : List Deed × List Deed} (k : Works B g) (hd : B.down = false) (hf : B.fail = 0) (h : B.acts < 200) :
    (doL B act9).1.h = B.h ∧ (doL B act9).1.l = B.l ∧ (doL B act9).1.acts = B.acts + 1 ∧ (((doL B act9).2.code = 5 ∧ (doL B act9).1.down = false) ∨ ((doL B act9).2.code = 7 ∧ (doL B act9).1.down = true ∧ (doL B act9).1.text = text g.1)) := by
  have gd := k.good.inv.goodB k.good.low
  have hs := shut_code gd (a := act9) rfl
  have hu := (k.up hd).1
  have hc := do_case B act9
  revert hc
  generalize doL B act9 = x
  intro hc
  have hz : (nextL B.h B.l act9).code = 0 := by rw [hs]
  cases hc with
  | full h0 => omega
  | openUp h0 h1 h2 => simp [act9] at h1
  | opened h0 h1 h2 => simp [act9] at h1
  | down h0 h1 h2 => rw [hd] at h2; cases h2
  | failBad h0 h1 => simp [act9] at h1
  | failSet h0 h1 => simp [act9] at h1
  | refused h0 h1 h2 h3 h4 => exact absurd hz h4
  | notNoted h0 h1 h2 h3 h4 h5 => exact absurd h5 (by decide)
  | bookFull h0 h1 h2 h3 h4 h5 h6 => exact ⟨rfl, rfl, rfl, .inl ⟨rfl, hd⟩⟩
  | lost h0 h1 h2 h3 h4 h5 h6 h7 => exact ⟨rfl, rfl, rfl, .inr ⟨rfl, rfl, by simp only [hf]; simp [hu]⟩⟩
  | done h0 h1 h2 h3 h4 h5 h6 h7 => omega
theorem do_open {B : Bk} {L : List Deed} (hd : B.down = true) (h : B.acts < 200) (ht : B.text = text L) (hn : ∀ x ∈ L, noted x = true) : (doL B act11).2.code = 0 ∧ (doL B act11).1.down = false ∧ ((doL B act11).1.h, (doL B act11).1.l) = replayL L := by
  unfold doL
  rw [if_neg (by omega), if_pos (c := act11.kind = 11) rfl, if_neg (by rw [hd]; simp)]
  rw [ht, rd_whole L hn]
  exact ⟨rfl, rfl, rfl⟩
/-- The power back, whatever was cut. -/
theorem do_open_up {B : Bk} (hd : B.down = true) (h : B.acts < 200) : (doL B act11).1.down = false := by
  unfold doL
  rw [if_neg (by omega), if_pos (c := act11.kind = 11) rfl, if_neg (by rw [hd]; simp)]
end Go.Proofs.Ytggfdkkhlokmlac

