/- What an act makes of a good house before it is swept: plain Lean. -/
import Derived.Test.YtggfdkkhlokmlabCPln
namespace Go.Proofs.Ytggfdkkhlokmlab

noncomputable def midL (h : Hs) (l : List Pay) (a : Deed) : Nx :=
 if a.kind = 1 then
  if goodPay (payOf h a) = false then .err h l 3
  else if 24 ≤ l.length ∨ 1048576 ≤ h.next then .err h l 5
  else ⟨h.setNext (h.next + 1), l ++ [payOf h a], 0, l.length, []⟩
 else if a.kind = 2 then
  if waitsAt l a.a = false then .err h l 4
  else ⟨h, l.set a.a.toNat (payAt l a.a.toNat).gone, 0, 0, []⟩
 else if a.kind = 3 then
  if waitsAt l a.a = false then .err h l 4
  else if sm 0 a.c 2 = false then .err h l 3
  else if 1048576 ≤ h.next then .err h l 5
  else ⟨h.setNext (h.next + 1), l.set a.a.toNat ((payAt l a.a.toNat).last a.c h.next), 0, 0, []⟩
 else if a.kind = 4 then
  if sm 0 a.a 3 = false ∨ sm 0 a.n 1000000 = false then .err h l 3
  else ⟨h.setCr a.a a.n, l, 0, 0, []⟩
 else if a.kind = 5 then
  if sm 0 a.a 3 = false ∨ sm 0 a.b 3 = false ∨ a.a = a.b ∨ sm (-1) a.n 1000000 = false then .err h l 3
  else ⟨h.setLim a.a a.b a.n, l, 0, 0, []⟩
 else if a.kind = 6 then
  if sm 0 a.a 3 = false ∨ sm 1 a.n 1000000 = false then .err h l 3
  else if 549755813888 ≤ h.has a.a then .err h l 5
  else ⟨h.setHas a.a (h.has a.a + a.n), l, 0, 0, []⟩
 else if a.kind = 7 then
  if sm 0 a.a 3 = false ∨ sm 1 a.n 1000000 = false then .err h l 3
  else if h.has a.a + h.cr a.a < a.n then .err h l 6
  else ⟨h.setHas a.a (h.has a.a - a.n), l, 0, 0, []⟩
 else if a.kind = 8 then ⟨(untieS h l).h, (untieS h l).l, 0, (untieS h l).d.length, (untieS h l).d⟩
 else if a.kind = 9 then ⟨h, l.map Pay.shut, 0, waiting l, []⟩
 else .err h l 2
/-- The rest of an act's work. -/
noncomputable def endL (k : Int) (h : Hs) (l : List Pay) (x : Nx) : Nx := if x.code ≠ 0 then .err h l x.code else if k = 9 then x else .swept x.h x.l x.n x.done
theorem end_err (k : Int) (h : Hs) (l : List Pay) {c : Int} (hc : c ≠ 0) : endL k h l (.err h l c) = .err h l c := by unfold endL; rw [if_pos (by exact hc)]; rfl
theorem end_swept {k : Int} (hk : k ≠ 9) (h : Hs) (l : List Pay) (h' : Hs) (l' : List Pay) (n : Int) (d : List Nat) : endL k h l ⟨h', l', 0, n, d⟩ = .swept h' l' n d := by
 unfold endL; rw [if_neg (by simp), if_neg hk]
theorem ite_both {α β : Type} (f : α → β) {c : Prop} [Decidable c] {x y : α} {u v : β} (h1 : c → f x = u) (h2 : ¬ c → f y = v) : f (if c then x else y) = if c then u else v := by
 split
 ·rename_i h; exact h1 h
 ·rename_i h; exact h2 h
theorem next_mid {h : Hs} {l : List Pay} (g : goodB h l = true) (a : Deed) : nextL h l a = endL a.kind h l (midL h l a) := by
 unfold nextL midL
 rw [if_neg (by rw [g]; simp)]
 symm
 refine ite_both _ (fun hk => ite_both _ (fun _ => end_err _ _ _ (by decide)) fun _ => ite_both _ (fun _ => end_err _ _ _ (by decide)) fun _ => end_swept (by omega) _ _ _ _ _ _) fun _ => ?_
 refine ite_both _ (fun hk => ite_both _ (fun _ => end_err _ _ _ (by decide)) fun _ => end_swept (by omega) _ _ _ _ _ _) fun _ => ?_
 refine ite_both _ (fun hk => ite_both _ (fun _ => end_err _ _ _ (by decide)) fun _ => ite_both _ (fun _ => end_err _ _ _ (by decide)) fun _ => ite_both _ (fun _ => end_err _ _ _ (by decide)) fun _ => end_swept (by omega) _ _ _ _ _ _) fun _ => ?_
 refine ite_both _ (fun hk => ite_both _ (fun _ => end_err _ _ _ (by decide)) fun _ => end_swept (by omega) _ _ _ _ _ _) fun _ => ?_
 refine ite_both _ (fun hk => ite_both _ (fun _ => end_err _ _ _ (by decide)) fun _ => end_swept (by omega) _ _ _ _ _ _) fun _ => ?_
 refine ite_both _ (fun hk => ite_both _ (fun _ => end_err _ _ _ (by decide)) fun _ => ite_both _ (fun _ => end_err _ _ _ (by decide)) fun _ => end_swept (by omega) _ _ _ _ _ _) fun _ => ?_
 refine ite_both _ (fun hk => ite_both _ (fun _ => end_err _ _ _ (by decide)) fun _ => ite_both _ (fun _ => end_err _ _ _ (by decide)) fun _ => end_swept (by omega) _ _ _ _ _ _) fun _ => ?_
 refine ite_both _ (fun hk => end_swept (by omega) _ _ _ _ _ _) fun _ => ?_
 exact ite_both _ (fun hk => by unfold endL; rw [if_neg (by simp), if_pos hk]) fun _ => end_err _ _ _ (by decide)
theorem next_bad {h : Hs} {l : List Pay} (g : goodB h l = false) (a : Deed) : nextL h l a = .err h l 1 := by
 unfold nextL; rw [if_pos g]
end Go.Proofs.Ytggfdkkhlokmlab


