/- bank.Run: the walk. -/
import Derived.Test.YtggfdkkhlokmlabRunMath
import Derived.Test.YtggfdkkhlokmlabDoAny
namespace Go.Proofs.Ytggfdkkhlokmlab
open Go.RowKit
attribute [local go_sem] rc_0 rc_1 rc_2 rc_size dc_0 dc_1 dc_2 dc_3 dc_4 dc_size
def RunPost (l : List Deed) (w : World) (e : Ending) (w' : World) : Prop := (∃ v zs, e = .returned (.tuple #[v, .int .i64 0]) ∧ zs.map (·.1) = Rl l l.length ∧ RepRow w' w.heap.size v zs) ∧ Below w.heap.size w w'
set_option maxRecDepth 100000 in
set_option maxHeartbeats 1000000 in
theorem run_many (l : List Deed) (a : Option Addr) (cap : Nat) (w : World) (ha : ActsAt w a cap l) (hl : 200 < l.length) : Calls Try.prog 28 #[.slice a l.length cap] w fun e w' => e = .returned (.tuple #[.slice none 0 0, .int .i64 5]) ∧ Below w.heap.size w w' := by
 have hml : l.length ≤ 9223372036854775807 := by have h1 := ha.le; have h2 := ha.capm; unfold maxLen at h2; omega
 have hd : decide ((l.length : Int) > 200) = true := decide_eq_true (by omega)
 have hd' : decide (200 < (l.length : Int)) = true := decide_eq_true (by omega)
 go_enter Try.func28, Try.ntmps28
 go_wp2_with fail
 go_ret2
 exact ⟨rfl, Below.refl _ _⟩
set_option maxRecDepth 100000 in
set_option maxHeartbeats 4000000 in
theorem run_any (l : List Deed) (a : Option Addr) (cap : Nat) (w : World) (ha : ActsAt w a cap l) (hl : l.length ≤ 200) : Calls Try.prog 28 #[.slice a l.length cap] w (RunPost l w) := by
 obtain ⟨i0, z, hi, hz0, hz1, hz2, hz3⟩ := infoRpz
 have hd : decide ((l.length : Int) > 200) = false := decide_eq_false (by omega)
 have hd' : decide (200 < (l.length : Int)) = false := decide_eq_false (by omega)
 replace ha := Lib.hid ha
 go_enter Try.func28, Try.ntmps28
 go_upto_region 4 with (first | go_skip | (go_at_call 37; refine (bankNew_any _).mono ?_; rintro e w1 ⟨p, rfl, hpw, hbk, hb1⟩))
 have hk1 := hbk fun _ => False
 clear hbk
 go_wp2_with fail
 go_loopg [5, 14] l.length (fun g s5 s14 wx => ∃ (k : Nat) (av : Nat → Prop) (zs : List (Rp × Value)), k ≤ l.length ∧ g = l.length - k ∧ s14 = .int .i64 k ∧ BankAt wx p av (Bs l k) ∧ ¬ av p ∧ (∀ b, av b → b < wx.heap.size) ∧ (∀ x, s5.ownBlock = some x → av x) ∧ zs.map (·.1) = Rl l k ∧ RepRow wx w.heap.size s5 zs ∧ Below w.heap.size w wx)
 case atStart => exact ⟨0, fun _ => False, [], by omega, rfl, rfl, hk1, fun h => h, fun _ h => h.elim, fun x h => by simp [Value.ownBlock] at h, rfl, RepRow.nil _ _, hb1⟩
 case round =>
  clear hk1 hb1
  obtain ⟨k, av, zs, hk, rfl, rfl, hK, hpa, hav, hvo, hzs, hrow, hB⟩ := hrel
  replace hzs := Lib.hid hzs
  replace hav := Lib.hid hav
  replace hvo := Lib.hid hvo
  replace hrow := Lib.hid hrow
  by_cases h4 : k < l.length
  ·have hd4 : decide ((k : Int) < l.length) = true := decide_eq_true (by omega)
   obtain ⟨d, hpk⟩ : ∃ d, l[k]? = some d := ⟨l[k], List.getElem?_eq_getElem h4⟩
   obtain ⟨b1, o1, rfl, _, hc1⟩ := (ha.out.below hB).row (by omega)
   have hcp : ∀ j v, (dc d)[j]? = some v → wr.cell? ⟨b1, o1 + k * 5 + j, none⟩ = some v := fun j v hv => by rw [Nat.add_assoc]; exact hc1 k d hpk j v hv
   have hw := bs_works l k
   have hlz : zs.length = k := by
    have h1 := congrArg List.length hzs.out
    rw [rl_length hk, List.length_map] at h1
    exact h1
   have hrl := rl_succ hpk
   have cD := fun w hB hav => do_any p av (Bs l k) d w hB hav hw.small hw.fail
   rw [do_pair hpk] at cD
   obtain ⟨r, hr⟩ : ∃ r, Rs l k d = r := ⟨_, rfl⟩
   rw [hr] at cD hrl
   replace hr := Lib.hid hr
   replace hrl := Lib.hid hrl
   replace hcp := Lib.hid hcp
   replace hpk := Lib.hid hpk
   replace cD := Lib.hid cD
   clear hc1 hw
   go_upto_region 8 with (first | go_skip | (refine ld_cells 40 _ rfl rfl b1 (o1 + k * 5) rfl (dc d) _ Try.underlying40 rfl info44 hcp.out ?_) | (refine st_new 40 _ _ rfl _ 40 _ rfl rfl rfl (dc d) rfl info44 rfl (dc_one d) ?_))
   have hA2 := hnew wr (.cells (dc d) 40)
   have hb2 : Below wr.heap.size wr (wr.alloc (.cells (dc d) 40)) := (Below.refl _ _).alloc (Nat.le_refl _) _
   have hK2 := Lib.hid (hK.below hb2)
   have hrow2 := Lib.hid (hrow.out.below hb2)
   have hs2 := hb2.size
   have hB2 := bstep hB hB.size hb2
   have hpl := hK.lt
   generalize wr.alloc (.cells (dc d) 40) = w2 at *
   generalize wr.heap.size = q2 at *
   clear hcp hK hrow hB hb2
   go_wp2_with (first | go_skip | (refine ld_row 40 _ rfl rfl _ rfl _ _ _ _ hA2 Try.underlying40 rfl info44 ?_) | (go_at_call 26; refine (cD.out _ hK2.out (fun b hb => by have := hav.out b hb; omega)).mono ?_; rintro e w3 ⟨v3, rfl, ho3, hK3, hO3⟩; have hrow3 : Hid (∀ C, RepRow (w3.alloc C) w.heap.size u5 zs) := Lib.hid (fun C => (hrow2.out.did hK2.out hO3).below ((Below.refl _ _).alloc (Nat.le_refl _) C))) | (at_builtin; refine wpList_append_fresh _ rfl _ _ 56 rfl w.heap.size 44 i0 z 3 40 Try.underlying56 hi hz0 hz1 hz2 hz3 (by decide) u5 zs.length (flatR zs) rfl (hrow3.out _).row ⟨w3.heap.size, 0, none⟩ 1 1 (rc r.code r.n v3).toList rfl rfl ?c1 ?c2 ?c3 ?c4 ?c5 ?_))
   case c1 =>
    suffices h : ∀ C, C = rc r.code r.n v3 → ∀ (j : Nat) (u : Value), (rc r.code r.n v3).toList[j]? = some u → (w3.alloc (.cells C 44)).cell? ((⟨w3.heap.size, 0, none⟩ : Addr).add j) = some u from h _ rfl
    intro C hC
    subst hC
    intro j u hu
    have hadd : (⟨w3.heap.size, 0, none⟩ : Addr).add j = ⟨w3.heap.size, 0 + j, none⟩ := by unfold Addr.add; split <;> simp_all
    rw [hadd, Nat.zero_add]
    exact (cells_at (hnew w3 (.cells (rc r.code r.n v3) 44)) j).trans (by simpa using hu)
   case c2 => intro u hu; exact Array.all_eq_true_iff_forall_mem.1 (rc_one _ _ _ ho3.one) u (by simpa using hu)
   case c3 => simp only [maxLen]; omega
   case c4 => omega
   case c5 => rw [alloc_size]; have := hO3.size; have := hB2.size; omega
   intro v4 w4 hown4 hgr4 hv4
   have hbk : BankAt w4 p (fun b => b < w4.heap.size ∧ (av b ∨ v3.ownBlock = some b ∨ w3.heap.size ≤ b)) (Bs l (k + 1)) ∧ RepRow w4 w.heap.size v4 (zs ++ [(r, v3)]) ∧ Below w.heap.size w w4 := by
    suffices h : ∀ C, World.grownBy (w3.alloc (.cells C 44)) w4 (Value.ownBlock u5) → BankAt w4 p (fun b => b < w4.heap.size ∧ (av b ∨ v3.ownBlock = some b ∨ w3.heap.size ≤ b)) (Bs l (k + 1)) ∧ RepRow w4 w.heap.size v4 (zs ++ [(r, v3)]) ∧ Below w.heap.size w w4 from h _ hgr4
    intro C hgr
    have hb34 : Below w3.heap.size w3 (w3.alloc (.cells C 44)) := (Below.refl _ _).alloc (Nat.le_refl _) _
    have hpv : u5.ownBlock ≠ some p := fun e => hpa (hvo.out p e)
    refine ⟨((((hK3.fresh).below hb34).only (only_grown hgr |>.mono fun b _ e => Or.inl (Or.inl (hvo.out b e))) (fun h => h.elim (fun h => h.elim hpa fun e => by have := ho3.own e; omega) fun h => by have := hK3.lt; omega))).mono fun b h => h.2.elim (fun e => .inl (.inl e)) fun e => e.elim (fun e => .inl (.inr e)) fun e => .inr e, ?_, ?_⟩
    ·exact (hrow3.out (.cells C 44)).snoc ((ho3.below hb34).mono (by have := hB2.size; omega)) (by rw [hlz]; exact hown4) hgr (by omega)
    ·have h3 : Only (fun b => w.heap.size ≤ b) w w3 := (only_new hB2).step hO3 fun b e => by left; omega
     exact ((h3.step (only_new (av := fun _ => False) hb34) fun _ f => f.elim).step (only_grown hgr) fun b e => by
      left
      exact (owns_block hrow2.out.row e).1).below (Nat.le_refl _) fun _ h => h
   have hpn : ¬ (p < w4.heap.size ∧ (av p ∨ v3.ownBlock = some p ∨ w3.heap.size ≤ p)) := fun h => h.2.elim hpa fun h => h.elim (fun e => by have := ho3.own e; omega) fun h => by have := hK3.lt; omega
   have hvn : ∀ x, v4.ownBlock = some x → x < w4.heap.size ∧ (av x ∨ v3.ownBlock = some x ∨ w3.heap.size ≤ x) := fun x hx => by
    obtain ⟨_, _, h1⟩ := owns_block hown4 hx
    refine ⟨hlt h1, ?_⟩
    rcases hv4 x hx with h | h
    ·exact .inl (hvo.out x h)
    ·exact .inr (.inr (by omega))
   obtain ⟨hK4, hrow4, hB4⟩ := hbk
   clear hgr4 hown4 hv4 hO3 hK3 ho3 hrow3
   replace hK4 := Lib.hid hK4
   replace hrow4 := Lib.hid hrow4
   replace hvn := Lib.hid hvn
   replace hpn := Lib.hid hpn
   go_wp2_with fail
   go_roundg (l.length - (k + 1))
   case measure => omega
   case rel => exact ⟨k + 1, _, zs ++ [(r, v3)], by omega, rfl, by go_num, hK4.out, hpn.out, fun b h => h.1, hvn.out, by rw [List.map_append, hzs.out, hrl.out]; rfl, hrow4.out, hB4⟩
  ·have hd4 : decide ((k : Int) < l.length) = false := decide_eq_false (by omega)
   obtain rfl : k = l.length := by omega
   go_wp2_with fail
   go_ret2
   exact ⟨⟨_, zs, rfl, hzs.out, hrow.out⟩, hB⟩
end Go.Proofs.Ytggfdkkhlokmlab


