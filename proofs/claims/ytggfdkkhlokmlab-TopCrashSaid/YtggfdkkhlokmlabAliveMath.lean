/- The small run that asks whether a bank answers at all: plain Lean. -/
import Derived.Test.YtggfdkkhlokmlabCPln
namespace Go.Proofs.Ytggfdkkhlokmlab
def actP : Deed := ⟨1, 0, 1, 0, 7⟩
def actF : Deed := ⟨6, 0, 0, 0, 7⟩
def hA1 : Hs := Hs.new.setNext 1
def pA : List Pay := [⟨0, 1, 7, 0, 1, 0⟩]
def hA2 : Hs := hA1.setHas 0 7
def SA : St := (⟨hA2, pA, []⟩ : St).settle 0
theorem one_ofL' {l : List Pay} {b : Int} {i : Nat} (h : waits l b = [i]) : ofL l b = [i] := by
 have h1 := (ofL_is l b).perm
 rw [h] at h1
 exact List.perm_singleton.1 h1
theorem none_ofL {l : List Pay} {b : Int} (h : waits l b = []) : ofL l b = [] := by
 have h1 := (ofL_is l b).perm
 rw [h] at h1
 exact h1.eq_nil
theorem pA_0 : ofL pA 0 = [0] := one_ofL' (by decide)
theorem pA_nodup : (pA.map (·.seq)).Nodup := by decide
theorem invA1 : Inv hA1 pA := good3_new.inv.pay (p := ⟨0, 1, 7, 0, 1, 0⟩) (by decide) rfl rfl (by decide) (by decide)
theorem lowA1 : Low hA1 := good3_new.low
theorem goodA0 : goodB Hs.new [] = true := good3_new.inv.goodB good3_new.low
theorem goodA1 : goodB hA1 pA = true := invA1.goodB lowA1
theorem invA2 : Inv hA2 pA := invA1.fund 0 7 (by decide)
theorem goodA2 : goodB hA2 pA = true := invA2.goodB (lowA1.set 0 7 (by decide))
theorem restsA1 : Rests ⟨hA1, pA, []⟩ := fun b hb i xs h => by
 match b, hb with
 | 0, _ =>
  have h : ofL pA 0 = i :: xs := h
  rw [pA_0] at h; cases h; decide
 | 1, _ => rw [show ofL pA ((1 : Nat) : Int) = [] from none_ofL (by decide)] at h; cases h
 | 2, _ => rw [show ofL pA ((2 : Nat) : Int) = [] from none_ofL (by decide)] at h; cases h
 | 3, _ => rw [show ofL pA ((3 : Nat) : Int) = [] from none_ofL (by decide)] at h; cases h
theorem restsA2 : Rests SA := fun b hb i xs h => by
 have : ofL SA.l (b : Int) = [] := none_ofL (by
  match b, hb with
  | 0, _ => decide
  | 1, _ => decide
  | 2, _ => decide
  | 3, _ => decide)
 rw [this] at h; cases h
theorem sweepA1 : sweepG hA1 pA = ⟨hA1, pA, []⟩ := by
 rw [sweepG, if_pos goodA1]
 exact (sweep_of_rests (S := ⟨hA1, pA, []⟩) (k := 0) pA_nodup restsA1).symm
theorem visitsA2 : visits 1 ⟨hA2, pA, []⟩ = SA := by
 show visit ((0 % 4 : Nat) : Int) ⟨hA2, pA, []⟩ = _
 rw [visit_yes (b := ((0 % 4 : Nat) : Int)) pA_nodup pA_0 (by decide), visit_nil (b := ((0 % 4 : Nat) : Int)) (none_ofL (by decide))]
 rfl
theorem sweepA2 : sweepG hA2 pA = SA := by
 rw [sweepG, if_pos goodA2]
 have h := sweep_of_rests (S := ⟨hA2, pA, []⟩) (k := 1) pA_nodup (by rw [visitsA2]; exact restsA2)
 rw [visitsA2] at h
 exact h.symm
theorem nextA : nextL Hs.new [] actP = ⟨hA1, pA, 0, 0, []⟩ := by
 have e : Nx.swept hA1 pA 0 [] = ⟨hA1, pA, 0, 0, []⟩ := by rw [Nx.swept, sweepA1]; rfl
 rw [← e, nextL, if_neg (by rw [goodA0]; simp), if_pos (by rfl), if_neg (by decide), if_neg (by decide)]
 rfl
theorem nextF : nextL hA1 pA actF = ⟨SA.h, SA.l, 0, 0, [0]⟩ := by
 have e : Nx.swept hA2 pA 0 [] = ⟨SA.h, SA.l, 0, 0, [0]⟩ := by rw [Nx.swept, sweepA2]; rfl
 rw [← e, nextL, if_neg (by rw [goodA1]; simp), if_neg (by decide), if_neg (by decide), if_neg (by decide), if_neg (by decide), if_neg (by decide), if_pos (by rfl), if_neg (by decide), if_neg (by decide)]
 rfl
def BA1 : Bk := ⟨hA1, pA, frame actP, false, -1, 1⟩
def BA2 : Bk := ⟨SA.h, SA.l, frame actP ++ frame actF, false, -1, 2⟩
theorem do_yes {B : Bk} {a : Deed} {x : Nx} (h : nextL B.h B.l a = x) (h0 : B.acts < 200) (h10 : a.kind ≠ 10) (h11 : a.kind ≠ 11) (hd : B.down = false) (hc : x.code = 0) (hn : noted a = true) (hl : B.text.length + (frame a).length ≤ 4000) (hf : B.fail < 0) :
  doL B a = ({ B.tick with text := B.text ++ frame a, h := x.h, l := x.l }, ⟨0, x.n, x.done⟩) := by
 subst h
 unfold doL
 rw [if_neg (by omega), if_neg h11, if_neg (by rw [hd]; simp), if_neg h10, if_neg (by rw [hc]; simp), if_neg (by rw [hn]; simp), if_neg (by omega), if_neg (by omega)]
theorem frame_le {x : Deed} (hn : noted x = true) : (frame x).length ≤ 40 := by
 have := body_len hn
 rw [frame_len]; omega
theorem doA1 : doL Bk.new actP = (BA1, ⟨0, 0, []⟩) := by
 rw [do_yes nextA (by decide) (by decide) (by decide) rfl rfl (by decide) (by have := frame_le (x := actP) (by decide); simp only [Bk.new, List.length_nil]; omega) (by decide)]; rfl
theorem doA2 : doL BA1 actF = (BA2, ⟨0, 0, [0]⟩) := by
 rw [do_yes nextF (by decide) (by decide) (by decide) rfl rfl (by decide) (by have := frame_le (x := actP) (by decide); have := frame_le (x := actF) (by decide); simp only [BA1]; omega) (by decide)]; rfl
theorem BA2_has : BA2.h.has 1 = 7 := by decide
theorem BA2_text : BA2.text ≠ [] := by decide
end Go.Proofs.Ytggfdkkhlokmlab


