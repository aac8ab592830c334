/- play: the walk, whatever looks on. -/
import Derived.Test.YtggfdkkhlokmlabAlive
import Derived.Test.YtggfdkkhlokmlabPlayMath
import Derived.Test.YtggfdkkhlokmlabGate3
set_option linter.unusedSimpArgs false
namespace Go.Proofs.Ytggfdkkhlokmlab
open Go.RowKit
attribute [local go_sem] rc_0 rc_1 rc_2 rc_size dc_0 dc_1 dc_2 dc_3 dc_4 dc_size
/-- What is asked of the one that looks on; J: what it keeps, av: the blocks that are none of the bank's. -/
structure Looks (kf : Nat) (caps : Array Value) (base : Nat) (J : Nat → (Nat → Prop) → World → Prop) (l : List Deed) : Prop where
 enter : ∀ (args : Array Value) (w : World), (callFunc kf args).run Try.prog w = .ok (.enter kf args) w
 keep : ∀ i av av' w w', J i av w → (∀ b, b < base ∨ av b → w'.heap[b]? = w.heap[b]?) → (∀ b, av b → av' b) → w.heap.size ≤ w'.heap.size → J i av' w'
 look : ∀ i d p av v w1, i < 80 → l[i]? = some d → J i av w1 → BankAt w1 p av (Bs l (i + 1)) → base ≤ p → ¬ av p → (∀ b, av b → base ≤ b ∧ b < w1.heap.size) → OwnInts w1 base v (nats (Rs l i d).done) → (∀ x, v.ownBlock = some x → av x) →
  Calls Try.prog kf (#[.pointer (some ⟨p, 0, none⟩), .agg (dc d), .agg (rc (Rs l i d).code (Rs l i d).n v)] ++ caps) w1 fun e w2 => e = .returned (.bool true) ∧ Only av w1 w2 ∧ J (i + 1) (fun b => av b ∨ (w1.heap.size ≤ b ∧ b < w2.heap.size)) w2
/-- The bank that has played. -/
def PlayPost (base : Nat) (J : Nat → (Nat → Prop) → World → Prop) (l : List Deed) (w : World) (e : Ending) (w' : World) : Prop :=
 (∃ p av, e = .returned (.tuple #[.pointer (some ⟨p, 0, none⟩), .bool true]) ∧ BankAt w' p av (Bs l (min l.length 80)) ∧ J (min l.length 80) av w' ∧ w.heap.size ≤ p ∧ ¬ av p ∧ (∀ b, base ≤ b → b < w.heap.size → av b) ∧ ∀ b, av b → base ≤ b ∧ b < w'.heap.size) ∧ Below base w w'
set_option maxRecDepth 100000 in
set_option maxHeartbeats 4000000 in
theorem play_any (kf : Nat) (caps : Array Value) (base : Nat) (J : Nat → (Nat → Prop) → World → Prop) (l : List Deed) (a : Option Addr) (cap : Nat) (w : World) (hl : ActsAt w a cap l) (hlb : 0 < l.length → ∀ b off s, a = some ⟨b, off, s⟩ → b < base) (hbase : base ≤ w.heap.size)
  (hL : Looks kf caps base J l) (hJ0 : J 0 (fun b => base ≤ b ∧ b < w.heap.size) w) :
  Calls Try.prog 19 #[.slice a l.length cap, .func (.func kf) #[] caps] w (PlayPost base J l w) := by
 have hml : l.length ≤ 9223372036854775807 := by have h1 := hl.le; have h2 := hl.capm; unfold maxLen at h2; omega
 replace hl := Lib.hid hl
 replace hlb := Lib.hid hlb
 replace hJ0 := Lib.hid hJ0
 replace hL := Lib.hid hL
 go_enter Try.func19, Try.ntmps19
 go_upto_region 4 with (first | go_skip | (go_at_call 50; refine (aliveT_any _).mono ?_; rintro e w1 ⟨rfl, hb1⟩) | (go_at_call 37; refine (bankNew_any _).mono ?_; rintro e w2 ⟨p, rfl, hpw, hbk, hb2⟩))
 have hk0 := hbk fun b => base ≤ b ∧ b < w.heap.size
 have hB0 : Below base w w2 := (hb1.mono hbase).trans (hb2.mono (Nat.le_trans hbase hb1.size))
 have hsz0 : w.heap.size ≤ w1.heap.size := hb1.size
 have hsz1 := hb2.size
 have hJ1 := hL.out.keep 0 _ (fun b => base ≤ b ∧ b < w.heap.size) w w2 hJ0.out (fun b hb => by
  have hb' : b < w.heap.size := hb.elim (fun h => by omega) fun h => h.2
  exact (hb2.block b (by omega)).trans (hb1.block b hb')) (fun _ h => h) (by omega)
 clear hb1 hb2 hbk hJ0
 go_wp2_with fail
 go_loopg [7] l.length (fun g s7 wx => ∃ (i : Nat) (av : Nat → Prop), i ≤ l.length ∧ i ≤ 80 ∧ g = l.length - i ∧ s7 = .int .i64 i ∧ BankAt wx p av (Bs l i) ∧ ¬ av p ∧ (∀ b, base ≤ b → b < w.heap.size → av b) ∧ (∀ b, av b → base ≤ b ∧ b < wx.heap.size) ∧ J i av wx ∧ Below base w wx)
 case atStart => exact ⟨0, fun b => base ≤ b ∧ b < w.heap.size, by omega, by omega, rfl, rfl, hk0, fun h => by omega, fun b h1 h2 => ⟨h1, h2⟩, fun b h => ⟨h.1, by omega⟩, hJ1, hB0⟩
 case round =>
  clear hk0 hB0 hJ1
  obtain ⟨i, av, hi, hi8, rfl, rfl, hk, hpa, hold', hav, hJ, hB⟩ := hrel
  replace hold' := Lib.hid hold'
  replace hav := Lib.hid hav
  replace hJ := Lib.hid hJ
  by_cases h4 : i < l.length ∧ i < 80
  ·obtain ⟨h4, h5⟩ := h4
   have hd4 : decide ((i : Int) < l.length) = true := decide_eq_true (by omega)
   have hd5 : decide ((i : Int) < 80) = true := decide_eq_true (by omega)
   obtain ⟨d, hpk⟩ : ∃ d, l[i]? = some d := ⟨l[i], List.getElem?_eq_getElem h4⟩
   have hlr : ActsAt wr a cap l := by
    obtain ⟨h1, h2, h3, h0, hr⟩ := hl.out
    exact ⟨h1, h2, h3, h0, fun hl0 => let ⟨b, off, e, hbl, hc⟩ := hr hl0
     ⟨b, off, e, Nat.lt_of_lt_of_le hbl hB.size, fun j q hj m v hv => (World.cell?_of_block (hB.block b (hlb.out hl0 b off none e))).trans (hc j q hj m v hv)⟩⟩
   obtain ⟨b1, o1, rfl, hb1l, hc1⟩ := hlr.row (by omega)
   have hcp : ∀ j v, (dc d)[j]? = some v → wr.cell? ⟨b1, o1 + i * 5 + j, none⟩ = some v := fun j v hv => by rw [Nat.add_assoc]; exact hc1 i d hpk j v hv
   have hb1b : b1 < base := hlb.out (by omega) b1 o1 none rfl
   have hw := bs_works l i
   have cD := do_any p av (Bs l i) d wr hk (fun b h => (hav.out b h).2) hw.small hw.fail
   rw [do_pair hpk] at cD
   have hlk := fun av v w1 => hL.out.look i d p av v w1 h5 hpk
   obtain ⟨r, hr⟩ : ∃ r, Rs l i d = r := ⟨_, rfl⟩
   rw [hr] at cD
   simp only [hr] at hlk
   have hpl := hk.lt
   replace hr := Lib.hid hr
   replace cD := Lib.hid cD
   replace hcp := Lib.hid hcp
   replace hlk := Lib.hid hlk
   replace hpk := Lib.hid hpk
   clear hc1 hw hlr
   go_upto_region 8 with (first | go_skip | (refine ld_cells 40 _ rfl rfl b1 (o1 + i * 5) rfl (dc d) _ Try.underlying40 rfl info44 hcp.out ?_) | (go_at_call 26; refine cD.out.mono ?_; rintro e w3 ⟨v, rfl, ho, hk3, hO3⟩; have hv1 := ho.one) | (refine st_new 44 _ _ rfl _ 44 _ rfl rfl rfl (rc r.code r.n v) rfl infoRp rfl (rc_one _ _ _ hv1) ?_))
   have hR4 := hnew w3 (.cells (rc r.code r.n v) 44)
   have hk4 := (hk3.below ((Below.refl _ _).alloc (Nat.le_refl _) (.cells (rc r.code r.n v) 44)))
   have hO4 : Only (fun b => b = p) wr (w3.alloc (.cells (rc r.code r.n v) 44)) := hO3.more ((Below.refl _ _).alloc (Nat.le_refl _) _)
   have ho4 := ho.alloc (.cells (rc r.code r.n v) 44)
   have hs3 := hO3.size
   have hs4 : w3.heap.size < (w3.alloc (.cells (rc r.code r.n v) 44)).heap.size := by simp
   generalize hW4 : w3.alloc (.cells (rc r.code r.n v) 44) = w4 at *
   generalize w3.heap.size = q at *
   clear hW4 hO3 hk3
   have hcp4 : ∀ j u, (dc d)[j]? = some u → w4.cell? ⟨b1, o1 + i * 5 + j, none⟩ = some u := fun j u hu => (World.cell?_of_block (hO4.block b1 (by have := hB.size; omega) (by omega))).trans (hcp.out j u hu)
   have hd4' : Below w4.heap.size w4 w4.drew := (Below.refl _ _).drew
   refine wpG_start (Below w4.heap.size w4) 7 (by kernel_rfl) ?_
   have hI0 := hd4'
   refine wpG_put 28 (i := 0) (oi := _) (v := (.func (.func kf) #[] caps)) [0] rfl rfl (by kernel_rfl) (by kernel_rfl) (by kernel_rfl) (by kernel_rfl) (fun _ _ _ h => h) hI0 ?hy1 ?rs1
   case hy1 => exact Or.inl ⟨by rfl, by intro w' hb; go_simp⟩
   (try simp only [Act.put, List.setIfInBounds_toArray, List.set_cons_succ, List.set_cons_zero])
   refine wpG_put 29 (i := 1) (oi := _) (v := (.pointer (some ⟨p, 0, none⟩))) [1] rfl rfl (by kernel_rfl) (by kernel_rfl) (by kernel_rfl) (by kernel_rfl) (fun _ _ _ h => h) hI0 ?hy2 ?rs2
   case hy2 => exact Or.inl ⟨by rfl, by intro w' hb; go_simp⟩
   (try simp only [Act.put, List.setIfInBounds_toArray, List.set_cons_succ, List.set_cons_zero])
   refine wpG_put 30 (i := 2) (oi := _) (v := (.slice (some ⟨b1, o1, none⟩) l.length cap)) [5, 4, 2] rfl rfl (by kernel_rfl) (by kernel_rfl) (by kernel_rfl) (by kernel_rfl) (fun _ _ _ h => h) hI0 ?hy3 ?rs3
   case hy3 => exact Or.inl ⟨by rfl, by intro w' hb; go_simp⟩
   (try simp only [Act.put, List.setIfInBounds_toArray, List.set_cons_succ, List.set_cons_zero])
   refine wpG_put 31 (i := 3) (oi := _) (v := (.int .i64 (i : Int))) [5, 4, 3] rfl rfl (by kernel_rfl) (by kernel_rfl) (by kernel_rfl) (by kernel_rfl) (fun _ _ _ h => h) hI0 ?hy4 ?rs4
   case hy4 => exact Or.inl ⟨by rfl, by intro w' hb; go_simp⟩
   (try simp only [Act.put, List.setIfInBounds_toArray, List.set_cons_succ, List.set_cons_zero])
   refine wpG_put 32 (i := 4) (oi := _) (v := (.pointer (some ⟨b1, o1 + i * 5, none⟩))) [5, 4] rfl rfl (by kernel_rfl) (by kernel_rfl) (by kernel_rfl) (by kernel_rfl) (fun _ _ _ h => h) hI0 ?hy5 ?rs5
   case hy5 => exact Or.inl ⟨by rfl, by intro w' hb; go_simp⟩
   (try simp only [Act.put, List.setIfInBounds_toArray, List.set_cons_succ, List.set_cons_zero])
   refine wpG_put 33 (i := 5) (oi := _) (v := (.agg (dc d))) [5] rfl rfl (by kernel_rfl) (by kernel_rfl) (by kernel_rfl) (by kernel_rfl) (fun _ _ _ h => h) hI0 ?hy6 ?rs6
   case hy6 => exact yields_cells 40 _ rfl rfl b1 (o1 + i * 5) rfl (dc d) _ (fun w' hb j u hu => (hb.cell (p := ⟨b1, _, none⟩) (by have := hB.size; have := hO4.size; show b1 < _; omega)).trans (hcp4 j u hu)) Try.underlying40 rfl info44
   (try simp only [Act.put, List.setIfInBounds_toArray, List.set_cons_succ, List.set_cons_zero])
   refine wpG_put 34 (i := 6) (oi := _) (v := (.agg (rc r.code r.n v))) [6] rfl rfl (by kernel_rfl) (by kernel_rfl) (by kernel_rfl) (by kernel_rfl) (fun _ _ _ h => h) hI0 ?hy7 ?rs7
   case hy7 => exact yields_row 44 _ rfl rfl _ rfl _ _ _ _ (fun w' hb => hkeep hb hR4) Try.underlying44 rfl infoRp
   (try simp only [Act.put, List.setIfInBounds_toArray, List.set_cons_succ, List.set_cons_zero])
   refine wpG_drop 7 rfl (by kernel_rfl) ?_
   simp only [List.drop_succ_cons, List.drop_zero]
   have hov : ∀ x, v.ownBlock = some x → wr.heap.size ≤ x ∧ x < w4.heap.size := fun x hx => ⟨ho4.own hx, ints_own_lt ho4 hx⟩
   have hBs := hB.size
   have hO4s := hO4.size
   have hJ4 : J i (fun b => av b ∨ v.ownBlock = some b) w4.drew := hL.out.keep i av _ wr w4.drew hJ.out (fun b hb => by
    have h1 : b < wr.heap.size ∧ b ≠ p := by
     rcases hb with h | h
     ·exact ⟨by omega, by omega⟩
     ·exact ⟨(hav.out b h).2, fun e => hpa (e ▸ h)⟩
    exact hO4.block b h1.1 h1.2) (fun _ h => .inl h) (by show wr.heap.size ≤ w4.heap.size; omega)
   have hav1 : ∀ b, (av b ∨ v.ownBlock = some b) → base ≤ b ∧ b < w4.drew.heap.size := fun b hb => by
    rcases hb with h | h
    ·have := hav.out b h; exact ⟨this.1, by show b < w4.heap.size; omega⟩
    ·have := hov b h; exact ⟨by omega, this.2⟩
   have hpa1 : ¬ (av p ∨ v.ownBlock = some p) := fun h => by
    rcases h with h | h
    ·exact hpa h
    ·have := hov p h; omega
   have cL := hlk.out (fun b => av b ∨ v.ownBlock = some b) v w4.drew hJ4 (hk4.below (Below.refl _ _).drew) (by omega) hpa1 hav1 ((ho4.below (Below.refl _ _).drew).mono (by omega)) (fun x hx => .inr hx)
   have hen := hL.out.enter
   replace cL := Lib.hid cL
   replace hov := Lib.hid hov
   replace hav1 := Lib.hid hav1
   replace hcp4 := Lib.hid hcp4
   replace hJ4 := Lib.hid hJ4
   clear hI0 hd4'
   go_wp2_with (first | go_skip | (refine cL.out.mono ?_; rintro e w5 ⟨rfl, hO5, hJ5⟩))
   clear hen
   have hk5 : BankAt w5 p (fun b => (av b ∨ v.ownBlock = some b) ∨ (w4.heap.size ≤ b ∧ b < w5.heap.size)) (Bs l (i + 1)) :=
    ((hk4.below (Below.refl _ _).drew).fresh.only (hO5.mono fun b _ h => .inl h) (fun h => h.elim hpa1 fun h => by have : w4.heap.size ≤ p := h; omega)).mono fun b hb => hb.imp id fun h => h.1
   have hO5s : w4.heap.size ≤ w5.heap.size := hO5.size
   have hB5 : Below base w w5 := (((only_below hB).step hO4 fun b e => .inl (by omega)).drew.step hO5 fun b hb => .inl (hav1.out b hb).1).below (Nat.le_trans hbase (Nat.le_refl _)) fun _ h => h
   go_roundg (l.length - (i + 1))
   case measure => omega
   case rel => exact ⟨i + 1, fun b => (av b ∨ v.ownBlock = some b) ∨ (w4.heap.size ≤ b ∧ b < w5.heap.size), by omega, by omega, rfl, by go_num, hk5, fun h => h.elim hpa1 fun h => by omega, fun b h1 h2 => .inl (.inl (hold'.out b h1 h2)), fun b hb => by
    rcases hb with h | h
    ·have h1 := hav1.out b h
     have : b < w4.heap.size := h1.2
     exact ⟨h1.1, by omega⟩
    ·exact ⟨by omega, h.2⟩, hJ5, hB5⟩
  ·have hmin : i = min l.length 80 := by omega
   have hend : PlayPost base J l w (.returned (.tuple #[.pointer (some ⟨p, 0, none⟩), .bool true])) wr := ⟨⟨p, av, rfl, hmin ▸ hk, hmin ▸ hJ.out, by omega, hpa, hold'.out, hav.out⟩, hB⟩
   replace hend := Lib.hid hend
   by_cases h5 : i < l.length
   ·have hd4 : decide ((i : Int) < l.length) = true := decide_eq_true (by omega)
    have hd5 : decide ((i : Int) < 80) = false := decide_eq_false (by omega)
    clear hmin h4
    go_wp2_with fail
    go_ret2
    exact hend.out
   ·have hd4 : decide ((i : Int) < l.length) = false := decide_eq_false (by omega)
    clear hmin h4
    go_wp2_with fail
    go_ret2
    exact hend.out
end Go.Proofs.Ytggfdkkhlokmlab


