/- TopRefused: the walk. -/
import Derived.Test.YtggfdkkhlokmlabTopQuiet
namespace Go.Proofs.Ytggfdkkhlokmlab
open Go.RowKit
attribute [local go_sem] hc_pays hc_next hc_size rc_0 rc_1 rc_2 rc_size
set_option maxRecDepth 100000 in
set_option maxHeartbeats 4000000 in
theorem topRefused_any (l0 : List Deed) (a0 : Option Addr) (cap0 : Nat) (d : Deed) (w : World) (hl : ActsAt w a0 cap0 l0) :
    Calls Try.prog 14 #[.slice a0 l0.length cap0, .agg (dc d)] w fun e w' => e = .returned (.bool true) ∧ Below w.heap.size w w' := by
  have hlb := lt_of_acts hl
  have cP := fun w' (hb : Below w.heap.size w w') => playQ_any w.heap.size l0 a0 cap0 w' (hl.below hb) hlb hb.size
  have hpr := fun (w0 w1 w2 : World) p q av av' h k hb => pair_of (base := w.heap.size) (l := l0) (w0 := w0) (w := w1) (w' := w2) (p := p) (q := q) (av := av) (av' := av') h k hb
  have hw := bs_works l0 (min l0.length 80)
  obtain ⟨K, hK⟩ : ∃ K, Bs l0 (min l0.length 80) = K := ⟨_, rfl⟩
  rw [hK] at hpr hw
  have hrf := fun hc => do_refused K d hc
  have cD := fun p av w hB hav => do_any p av K d w hB hav hw.small hw.fail
  obtain ⟨X, hX⟩ : ∃ X, doL K d = X := ⟨_, rfl⟩
  rw [hX] at hrf cD
  replace hX := Lib.hid hX
  replace hK := Lib.hid hK
  replace cP := Lib.hid cP
  replace hrf := Lib.hid hrf
  replace cD := Lib.hid cD
  replace hpr := Lib.hid hpr
  clear hw
  go_enter Try.func14, Try.ntmps14
  go_upto_region 1 with fail
  have hD0 := hnew w (.cells (dc d) 40)
  have hB0 : Below w.heap.size w (w.alloc (.cells (dc d) 40)) := (Below.refl w.heap.size w).alloc (Nat.le_refl _) _
  generalize w.alloc (.cells (dc d) 40) = W0 at *
  go_upto_region 2 with (first | go_skip | (go_at_call 19; refine (cP.out _ hB0).mono ?_; rintro e w1 ⟨p, av, rfl, hp1⟩))
  have hB1 := bstep hB0 hB0.size hp1.below
  have hD1 := hkeep hp1.below hD0
  go_upto_region 3 with (first | go_skip | (go_at_call 19; refine (cP.out _ hB1).mono ?_; rintro e w2 ⟨q, av2, rfl, hp2⟩))
  have hB2 := bstep hB1 hB1.size hp2.below
  have hD2 := hkeep hp2.below hD1
  have hP := hpr.out _ _ _ _ _ _ _ hp1 hp2 hB0.size
  have hbp : w.heap.size ≤ p := Nat.le_trans hB0.size hp1.new
  clear hp1 hp2 hB0 hB1 hD0 hD1
  go_upto_region 6 with (first | go_skip | (refine ld_row 40 _ rfl rfl _ rfl _ _ _ _ hD2 Try.underlying40 rfl info44 ?_) | (go_at_call 26; refine (cD.out p _ _ hP.at1 hP.lt1).mono ?_; rintro e w4 ⟨v, rfl, ho4, hk4, hO4⟩; have hv1 := ho4.one) | (refine st_new 44 _ _ rfl _ 44 _ rfl rfl rfl (rc X.2.code X.2.n v) rfl infoRp rfl (rc_one _ _ _ hv1) ?_))
  have hR5 := hnew w4 (.cells (rc X.2.code X.2.n v) 44)
  have hP5 := (hP.did ho4 hk4 hO4).below ((Below.refl _ _).alloc (Nat.le_refl _) (.cells (rc X.2.code X.2.n v) 44))
  have hB5 : Below w.heap.size w (w4.alloc (.cells (rc X.2.code X.2.n v) 44)) := (((only_new (av := fun b => w.heap.size ≤ b) hB2).step hO4 fun b e => by left; omega).more ((Below.refl _ _).alloc (Nat.le_refl _) _)).below (Nat.le_refl _) fun _ h => h
  have hne : p < w4.heap.size := hk4.lt
  obtain ⟨al, cl, rfl, _, _⟩ := ho4.at_
  generalize w4.alloc (.cells (rc X.2.code X.2.n (.slice al (nats X.2.done).length cl)) 44) = w5 at *
  generalize w4.heap.size = hr at *
  clear hO4 hk4 ho4 hP hB2 hD2 cP cD hpr
  have cR := cells_at hR5
  by_cases hc : X.2.code = 0
  · have q0 : (X.2.code == 0) = true := by rw [beq_iff_eq]; exact hc
    replace hc := Lib.hid hc
    go_wp2_with fail
    go_ret
    exact ⟨rfl, hB5⟩
  · have q0 : (X.2.code == 0) = false := by rw [beq_eq_false_iff_ne]; exact hc
    obtain ⟨en, ed, eh, el, eu⟩ := hrf.out hc
    have qn : (X.2.n == 0) = true := by rw [beq_iff_eq]; exact en
    have en0 : (nats X.2.done).length = 0 := by rw [ed]; rfl
    have cH1 := fun w h => bankHouse_any p (fun x => (fun b => (av b ∨ w1.heap.size ≤ b) ∧ b < w2.heap.size) x ∨ (Value.slice al (nats X.2.done).length cl).ownBlock = some x) X.1 w h
    have cH2 := fun w h => bankHouse_any q av2 K w h
    have cS := fun (h : X.2.code ≠ 7) w (hP : Pair w p q (fun x => (fun b => (av b ∨ w1.heap.size ≤ b) ∧ b < w2.heap.size) x ∨ (Value.slice al (nats X.2.done).length cl).ownBlock = some x) av2 X.1 K) => topSame_any p q _ av2 X.1 K w hP.at1 hP.at2 eh.symm el.symm (eu.resolve_left h).1.symm (eu.resolve_left h).2.symm
    rw [eh, el] at cH1
    replace cH1 := Lib.hid cH1
    replace cH2 := Lib.hid cH2
    replace cS := Lib.hid cS
    replace en := Lib.hid en
    replace ed := Lib.hid ed
    replace eh := Lib.hid eh
    replace el := Lib.hid el
    replace eu := Lib.hid eu
    replace hc := Lib.hid hc
    replace hP5 := Lib.hid hP5
    by_cases h7 : X.2.code = 7
    · have q7 : (X.2.code == 7) = true := by rw [beq_iff_eq]; exact h7
      replace h7 := Lib.hid h7
      go_wp2_with (first | go_skip | (go_at_call 21; refine (cH2.out _ (hP5.out.at2.below hb6)).mono ?_; rintro e w7 ⟨⟨u', rfl, hv⟩, hb7⟩; obtain ⟨a7, cap7, rfl, hp7, _⟩ := hv.at_; have cR7 := cells_at (hkeep hb7 (hkeep hb6 hR5))) | (go_at_call 21; refine (cH1.out _ hP5.out.at1).mono ?_; rintro e w6 ⟨⟨u, rfl, hu⟩, hb6⟩; obtain ⟨a6, cap6, rfl, hp6, _⟩ := hu.at_; have cR6 := cells_at (hkeep hb6 hR5)) | (go_at_call 40; refine (topSameHouse_eq K.h K.l a6 a7 cap6 cap7 _ (hp6.below hb7) hp7).mono ?_; rintro e w8 ⟨rfl, hb8⟩; have cR8 := cells_at (hkeep hb8 (hkeep hb7 (hkeep hb6 hR5)))))
      go_ret
      have h6 := bstep hB5 hB5.size hb6
      have h7 := bstep h6 h6.size hb7
      exact ⟨rfl, bstep h7 h7.size hb8⟩
    · have q7 : (X.2.code == 7) = false := by rw [beq_eq_false_iff_ne]; exact h7
      replace h7 := Lib.hid h7
      go_wp2_with (first | go_skip | (go_at_call 21; refine (cH2.out _ (hP5.out.at2.below hb6)).mono ?_; rintro e w7 ⟨⟨u', rfl, hv⟩, hb7⟩; obtain ⟨a7, cap7, rfl, hp7, _⟩ := hv.at_; have cR7 := cells_at (hkeep hb7 (hkeep hb6 hR5))) | (go_at_call 21; refine (cH1.out _ hP5.out.at1).mono ?_; rintro e w6 ⟨⟨u, rfl, hu⟩, hb6⟩; obtain ⟨a6, cap6, rfl, hp6, _⟩ := hu.at_; have cR6 := cells_at (hkeep hb6 hR5)) | (go_at_call 40; refine (topSameHouse_eq K.h K.l a6 a7 cap6 cap7 _ (hp6.below hb7) hp7).mono ?_; rintro e w8 ⟨rfl, hb8⟩; have cR8 := cells_at (hkeep hb8 (hkeep hb7 (hkeep hb6 hR5))); have hP8 := Lib.hid (((hP5.out.below hb6).below hb7).below hb8)) | (go_at_call 42; refine (cS.out h7.out _ hP8.out).mono ?_; rintro e w9 ⟨rfl, hb9⟩))
      go_ret
      have h6 := bstep hB5 hB5.size hb6
      have h7 := bstep h6 h6.size hb7
      have h8 := bstep h7 h7.size hb8
      exact ⟨rfl, bstep h8 h8.size hb9⟩
end Go.Proofs.Ytggfdkkhlokmlab

