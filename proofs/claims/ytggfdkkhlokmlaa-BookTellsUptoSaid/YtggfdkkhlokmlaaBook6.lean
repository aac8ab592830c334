/- book.one whole. -/
import Derived.Test.YtggfdkkhlokmlaaBook5
namespace Go.Proofs.Ytggfdkkhlokmlaa
open Go.RowKit
attribute [local go_sem] dc_size
set_option maxRecDepth 100000 in
set_option maxHeartbeats 1000000 in
theorem one_mid (s : ByteArray) (n : Nat) (w : World) (hs : 0 < s.size) (hcn : s[0].toNat = n) (h256 : n < 256) (hl : s.size < n + 3) :
    Calls Try.prog 69 #[.string s] w (OnePost s.data.toList w) := by
  have hz : ((s.size : Int) == 0) = false := by rw [beq_eq_false_iff_ne]; omega
  have hd : decide ((s.size : Int) < (n : Int) + 3) = true := decide_eq_true (by omega)
  obtain ⟨L, hL⟩ : ∃ L, L = s.data.toList := ⟨_, rfl⟩
  have hn : oneF L = (d0, 0) := oneF_none (by
    cases hc : L with
    | nil => rfl
    | cons c tl =>
      have h0 : L[0]? = some s[0] := by rw [hL, List.getElem?_eq_getElem (by simpa using hs)]; rfl
      rw [hc] at h0
      simp only [List.getElem?_cons_zero, Option.some.injEq] at h0
      have hlen : L.length = s.size := by rw [hL]; simp
      rw [hc] at hlen
      simp only [List.length_cons] at hlen
      unfold oneL
      simp only
      rw [if_pos (by rw [h0, hcn]; omega)])
  rw [← hL]
  replace hL := Lib.hid hL
  replace hn := Lib.hid hn
  go_enter Try.func69, Try.ntmps69
  go_wp2
  refine bodyPost_ret (results_act rfl _ _ _ d0 rfl (hnew _ _)) rfl ?_
  exact ⟨by rw [hn.out]; rfl, (Below.refl _ _).alloc (Nat.le_refl _) _⟩
theorem one_any (s : ByteArray) (w : World) (hr : s.size ≤ 140737488355328) : Calls Try.prog 69 #[.string s] w (OnePost s.data.toList w) := by
  by_cases h0 : s.size = 0
  · exact one_short s w h0
  · have hs : 0 < s.size := by omega
    by_cases hl : s[0].toNat + 3 ≤ s.size
    · exact one_long s _ w hr hs rfl s[0].toNat_lt hl
    · exact one_mid s _ w hs rfl s[0].toNat_lt (by omega)
end Go.Proofs.Ytggfdkkhlokmlaa
