/- TopEnds: the walk. -/
import Derived.Test.YtggfdkkhlokmlacTopQuiet
import Derived.Test.YtggfdkkhlokmlacTopReply
namespace Go.Proofs.Ytggfdkkhlokmlac
open Go.RowKit
attribute [local go_sem] hc_pays hc_next hc_size rc_0 rc_1 rc_2 rc_size
theorem act0_cells : (.agg #[.int .i64 0, .int .i64 0, .int .i64 0, .int .i64 0, .int .i64 0] : Value) = .agg (dc act0) := rfl
theorem rc5_cells : (.agg #[.int .i64 5, .int .i64 0, .slice none 0 0] : Value) = .agg (rc 5 0 (.slice none 0 0)) := rfl
/-- A bank behind j acts. -/
def Bk.at (K : Bk) (j : Nat) : Bk := { K with acts := j }
theorem bk_at (K : Bk) : K.at K.acts = K := rfl
set_option maxRecDepth 100000 in
set_option maxHeartbeats 4000000 in
theorem topEnds_any (l0 : List Deed) (a0 : Option Addr) (cap0 : Nat) (d : Deed) (w : World) (hl : ActsAt w a0 cap0 l0) :
    Calls Try.prog 4 #[.slice a0 l0.length cap0, .agg (dc d)] w fun e w' => e = .returned (.bool true) ∧ Below w.heap.size w w' := by
  have hlb := lt_of_acts hl
  have hml : l0.length ≤ 9223372036854775807 := by have h1 := hl.le; have h2 := hl.capm; unfold maxLen at h2; omega
  have cP := fun w' (hb : Below w.heap.size w w') => playQ_any w.heap.size l0 a0 cap0 w' (hl.below hb) hlb hb.size
  have hpr := fun (w0 w1 w2 : World) p q av av' h k hb => pair_of (base := w.heap.size) (l := l0) (w0 := w0) (w := w1) (w' := w2) (p := p) (q := q) (av := av) (av' := av') h k hb
  have hw := bs_works l0 (min l0.length 80)
  have hg3 := bs_good l0 (min l0.length 80)
  have hac : (Bs l0 (min l0.length 80)).acts = min l0.length 80 := bs_acts (by omega) (by omega)
  obtain ⟨K, hK⟩ : ∃ K, Bs l0 (min l0.length 80) = K := ⟨_, rfl⟩
  rw [hK] at hpr hw hg3 hac
  have hgb := hg3.inv.goodB hg3.low
  obtain ⟨c, hc⟩ : ∃ c : Int, (if K.down then 7 else 2) = c := ⟨_, rfl⟩
  have hc0 : (c == 0) = false := by rw [← hc]; split <;> rfl
  have cD : ∀ p av j w, j < 200 → BankAt w p av (K.at j) → (∀ x, av x → x < w.heap.size) → Calls Try.prog 11 #[.pointer (some ⟨p, 0, none⟩), .agg (dc act0)] w fun e w' =>
      ∃ v, e = .returned (.agg (rc c 0 v)) ∧ OwnInts w' w.heap.size v (nats []) ∧ BankAt w' p (fun x => av x ∨ v.ownBlock = some x) (K.at (j + 1)) ∧ Only (fun b => b = p) w w' := fun p av j w hj hB hav => by
    have h := do_any p av (K.at j) act0 w hB hav hw.small hw.fail
    rw [do_zero (B := K.at j) hgb hj] at h
    rw [← hc]
    exact h
  have cE : ∀ p av w, BankAt w p av (K.at 200) → (∀ x, av x → x < w.heap.size) → Calls Try.prog 11 #[.pointer (some ⟨p, 0, none⟩), .agg (dc d)] w fun e w' =>
      ∃ v, e = .returned (.agg (rc 5 0 v)) ∧ OwnInts w' w.heap.size v (nats []) ∧ BankAt w' p (fun x => av x ∨ v.ownBlock = some x) (K.at 200) ∧ Only (fun b => b = p) w w' := fun p av w hB hav => by
    have h := do_any p av (K.at 200) d w hB hav hw.small hw.fail
    rw [do_last d rfl] at h
    exact h
  have hdid : ∀ (j : Nat) (w w' : World) (p q : Nat) (av av' : Nat → Prop) (K1 K' : Bk) (v : Value) (c : Int), Pair w p q av av' K1 K' → OwnInts w' w.heap.size v (nats []) → BankAt w' p (fun x => av x ∨ v.ownBlock = some x) (K.at j) → Only (fun b => b = p) w w' → Pair w' p q (fun x => av x ∨ v.ownBlock = some x) av' (K.at j) K' := fun j w w' p q av av' K1 K' v c h ho hk hO =>
    h.did (X := (K.at j, Rp.no c)) ho hk hO
  replace hK := Lib.hid hK
  replace cP := Lib.hid cP
  replace cD := Lib.hid cD
  replace cE := Lib.hid cE
  replace hpr := Lib.hid hpr
  replace hdid := Lib.hid hdid
  replace hc := Lib.hid hc
  replace hac := Lib.hid hac
  clear hw hg3 hgb
  go_enter Try.func4, Try.ntmps4
  go_upto_region 1 with fail
  have hD0 := hnew w (.cells (dc d) 28)
  have hB0 : Below w.heap.size w (w.alloc (.cells (dc d) 28)) := (Below.refl w.heap.size w).alloc (Nat.le_refl _) _
  generalize w.alloc (.cells (dc d) 28) = W0 at *
  go_upto_region 2 with (first | go_skip | (go_at_call 8; refine (cP.out _ hB0).mono ?_; rintro e w1 ⟨p, av, rfl, hp1⟩))
  have hB1 := bstep hB0 hB0.size hp1.below
  have hD1 := hkeep hp1.below hD0
  go_upto_region 3 with (first | go_skip | (go_at_call 8; refine (cP.out _ hB1).mono ?_; rintro e w2 ⟨q, av2, rfl, hp2⟩))
  have hB2 := bstep hB1 hB1.size hp2.below
  have hD2 := hkeep hp2.below hD1
  have hP := hpr.out _ _ _ _ _ _ _ hp1 hp2 hB0.size
  have hbp : w.heap.size ≤ p := Nat.le_trans hB0.size hp1.new
  have hbq : w.heap.size ≤ q := Nat.le_trans hB1.size hp2.new
  have hdp : w.heap.size ≠ p := fun e => by have := hlt hD0; have := hp1.new; omega
  have hdq : w.heap.size ≠ q := fun e => by have := hlt hD1; have := hp2.new; omega
  have hmin : min (l0.length : Int) 80 = ((min l0.length 80 : Nat) : Int) := by omega
  clear hp1 hp2 hB0 hB1 hD0 hD1
  go_upto_region 5 with fail
  go_wp2_with fail
  go_loopg [9] (200 - min l0.length 80) (fun g s9 wr => ∃ (j : Nat) (avp avq : Nat → Prop), j ≤ 200 ∧ g = 200 - j ∧ s9 = .int .i64 j ∧ Pair wr p q avp avq (K.at j) (K.at j) ∧ wr.heap[w.heap.size]? = some (.cells (dc d) 28 (0, 0)) ∧ Below w.heap.size w wr)
  case atStart => exact ⟨min l0.length 80, _, av2, by omega, rfl, by first | rfl | (rw [← hmin]) | go_num, by rw [← hac.out]; exact hP, hD2, hB2⟩
  case round =>
    clear hP hD2 hB2
    obtain ⟨j, avp, avq, hj, rfl, rfl, hP, hD, hB⟩ := hrel
    by_cases h4 : j < 200
    · have h4d : decide ((j : Int) < 200) = true := decide_eq_true (by omega)
      go_upto_region 9 with (first | go_skip | (go_at_call 11; rw [act0_cells]; have hP4 := hdid.out (j + 1) _ _ _ _ _ _ _ _ _ c hP ho4 hk4 hO4; refine (cD.out q _ j _ h4 hP4.at2 hP4.lt2).mono ?_; rintro e w5 ⟨v5, rfl, ho5, hk5, hO5⟩; have hv5 := ho5.one) | (go_at_call 11; rw [act0_cells]; refine (cD.out p _ j _ h4 hP.at1 hP.lt1).mono ?_; rintro e w4 ⟨v4, rfl, ho4, hk4, hO4⟩; have hv4 := ho4.one) | (refine st_row 32 _ _ rfl rfl _ rfl (rc c 0 v5) rfl _ _ ((hgr6.block _ (by simp) (by simp)).trans (heap_alloc2_new w5 _ _)) infoRp rfl (rc_one _ _ _ hv5) ?_; intro w7 hr7 hgr7 hsz7) | (refine st_row 32 _ _ rfl rfl _ rfl (rc c 0 v4) rfl _ _ (heap_alloc2_old w5 _ _) infoRp rfl (rc_one _ _ _ hv4) ?_; intro w6 hr6 hgr6 hsz6))
      have hP5 := (hdid.out (j + 1) _ _ _ _ _ _ _ _ _ c hP4.swap ho5 hk5 hO5).swap
      have hb57 : Below w5.heap.size w5 w7 := ((((Below.refl w5.heap.size w5).alloc (Nat.le_refl _) _).alloc (by simp) _).grown hgr6 (by simp; omega) (fun k hk => by cases hk; exact Nat.le_refl _)).grown hgr7 (by rw [hsz6]; simp; omega) (fun k hk => by cases hk; omega)
      have hP7 := hP5.below hb57
      have hO45 : Only (fun b => b = p ∨ b = q) wr w5 := (hO4.mono fun b _ e => .inl e).trans (hO5.mono fun b _ e => .inr e)
      have hD7 := hkeep hb57 ((hO45.block _ (hlt hD) (fun e => e.elim hdp hdq)).trans hD)
      have hB7 : Below w.heap.size w w7 := (((only_new (av := fun b => w.heap.size ≤ b) hB).step hO45 fun b e => by left; omega).more hb57).below (Nat.le_refl _) fun _ h => h
      have cR6 := cells_at ((hgr7.block _ (hlt hr6) (by simp)).trans hr6)
      have cR7 := cells_at hr7
      clear hP5 hP4 hP hO4 hO5 hk4 hk5 ho4 ho5 hb57 hO45 hD hB hr6 hr7 hgr6 hgr7 hsz6 hsz7
      replace hP7 := Lib.hid hP7
      have hcc : (c == c) = true := by simp
      have hcc' : (c != c) = false := by simp
      go_wp2_with fail
      go_roundg (200 - (j + 1))
      case measure => omega
      case rel => exact ⟨j + 1, _, _, by omega, rfl, by go_num, hP7.out, hD7, hB7⟩
    · have h4d : decide ((j : Int) < 200) = false := decide_eq_false (by omega)
      obtain rfl : j = 200 := by omega
      have hI : ∀ w : World, IntsAt w none 0 (nats []) := fun w => ⟨by simp [nats], by simp [maxLen], by simp [nats], fun _ => rfl, fun h => by simp [nats] at h⟩
      go_wp2_with (first | go_skip | (refine ld_row 28 _ rfl rfl _ rfl _ _ _ _ hD Try.underlying28 rfl info44 ?_) | (go_at_call 11; refine (cE.out p _ _ hP.at1 hP.lt1).mono ?_; rintro e w4 ⟨v4, rfl, ho4, hk4, hO4⟩; have hP4 := hdid.out 200 _ _ _ _ _ _ _ _ _ c hP ho4 hk4 hO4; obtain ⟨al, cl, rfl, hil, _⟩ := ho4.at_) | (go_at_call 10; rw [rc5_cells]; refine (topSameReply_eq 5 0 [] al none cl 0 _ hil (hI _)).mono ?_; rintro e w5 ⟨rfl, hb5⟩) | (go_at_call 13; refine (topSame_any p q _ _ _ _ _ (hP4.below hb5).at1 (hP4.below hb5).at2 rfl rfl rfl rfl).mono ?_; rintro e w6 ⟨rfl, hb6⟩))
      go_ret
      have hB4 : Below w.heap.size w w4 := ((only_new (av := fun b => w.heap.size ≤ b) hB).step hO4 fun b e => by left; omega).below (Nat.le_refl _) fun _ h => h
      have hB5 := bstep hB4 hB4.size hb5
      exact ⟨rfl, bstep hB5 hB5.size hb6⟩
end Go.Proofs.Ytggfdkkhlokmlac

