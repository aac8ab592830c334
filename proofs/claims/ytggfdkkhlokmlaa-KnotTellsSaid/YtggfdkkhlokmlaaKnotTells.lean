/- KnotTells: the walk. -/
import Derived.Test.YtggfdkkhlokmlaaUntieHouse
import Derived.Test.YtggfdkkhlokmlaaKnots
import Derived.Test.YtggfdkkhlokmlaaCSel
import Derived.Test.YtggfdkkhlokmlaaCMem
namespace Go.Proofs.Ytggfdkkhlokmlaa
open Go.RowKit
attribute [local go_sem] hc_pays hc_next hc_size nc_size
theorem nc_ints (n : Nat → Int) : Ints (nc n) 4 := by
  intro i hi
  rcases i with _ | _ | _ | _ | i <;> first | exact ⟨_, rfl⟩ | omega
theorem eql_nc (n : Nat → Int) (w : World) : (binOp .eql 26 (.agg (nc n)) (.agg (nc n))).run Try.prog w = .ok (.bool true) w := by
  have h := eq4 9998 (nc n) (nc_ints n) w
  rw [run_eql_struct, h]; rfl
attribute [local go_sem high] eql_nc
set_option maxRecDepth 100000 in
set_option maxHeartbeats 4000000 in
theorem knotTells_any (h : Hs) (l : List Pay) (a : Option Addr) (cap : Nat) (n : Nat → Int) (w : World) (hp : PaysAt w a cap l) :
    Calls Try.prog 14 #[.agg (hc h (.slice a l.length cap)), .agg (nc n)] w fun e w' => e = .returned (.bool true) ∧ Below w.heap.size w w' := by
  obtain ⟨T, hT⟩ : ∃ T, untieS h l = T := ⟨_, rfl⟩
  have hg := heap_alloc2_old w (.cells (hc h (.slice a l.length cap)) 30) (.cells (nc n) 26)
  have hgN := heap_alloc2_new w (.cells (hc h (.slice a l.length cap)) 30) (.cells (nc n) 26)
  have hB0 := ((Below.refl w.heap.size w).alloc (Nat.le_refl _) (.cells (hc h (.slice a l.length cap)) 30)).alloc (by simp) (.cells (nc n) 26)
  have hp0 := hp.below hB0
  clear hp
  go_enter Try.func14, Try.ntmps14
  go_wp2_with (first | go_skip | (refine ld_row 30 _ rfl rfl _ rfl _ _ _ _ hg Try.underlying30 rfl info30 ?_))
  refine (copyHouse_any h l a cap _ hp0).mono ?_
  rintro e w1 ⟨⟨v, rfl, hO⟩, hb1⟩
  obtain ⟨a', cap', rfl, hpc, _⟩ := hO.at_
  have hgA := hold (hkeep hb1 hg) (.cells (hc h (.slice a' l.length cap')) 30)
  have hgM := hold (hkeep hb1 hgN) (.cells (hc h (.slice a' l.length cap')) 30)
  have hgC := hnew w1 (.cells (hc h (.slice a' l.length cap')) 30)
  have hpA := (hp0.below hb1).alloc (.cells (hc h (.slice a' l.length cap')) 30)
  have hpC := hpc.alloc (.cells (hc h (.slice a' l.length cap')) 30)
  have hB1 := bstep hB0 hB0.size hb1
  have hB := hB1.alloc hB1.size (.cells (hc h (.slice a' l.length cap')) 30)
  clear hg hgN hp0 hb1 hO hpc hB1 hB0
  replace hgA := Lib.hid hgA
  replace hgM := Lib.hid hgM
  replace hgC := Lib.hid hgC
  go_upto_region 2 with (first | go_skip | (refine st_new 30 _ _ rfl _ 30 _ rfl rfl rfl (hc h (.slice a' l.length cap')) rfl info30 rfl (hc_one _ _ rfl) ?_))
  replace hgA := hgA.out
  replace hgM := hgM.out
  replace hgC := hgC.out
  generalize hW : w1.alloc (.cells (hc h (.slice a' l.length cap')) 30) = W at *
  generalize hC0 : w1.heap.size = cb at *
  clear hW hC0
  go_wp2_with (first | go_skip | (refine ld_row 30 _ rfl rfl _ rfl _ _ _ _ hgC Try.underlying30 rfl info30 ?_))
  refine (untie_any h l a' cap' _ hpC).mono ?_
  rw [hT]
  rintro e w2 ⟨⟨a2, cap2, v2, rfl, hp2, hO2⟩, hb2⟩
  obtain ⟨al, cl, rfl, hi2, _⟩ := hO2.at_
  rw [nats_len]
  clear hO2
  have hg2 := hnew w2 (.cells (hc T.h (.slice a2 T.l.length cap2)) 30)
  replace hgA := hold (hkeep hb2 hgA) (.cells (hc T.h (.slice a2 T.l.length cap2)) 30)
  replace hgM := hold (hkeep hb2 hgM) (.cells (hc T.h (.slice a2 T.l.length cap2)) 30)
  replace hgC := hold (hkeep hb2 hgC) (.cells (hc T.h (.slice a2 T.l.length cap2)) 30)
  replace hpA := (hpA.below hb2).alloc (.cells (hc T.h (.slice a2 T.l.length cap2)) 30)
  replace hpC := (hpC.below hb2).alloc (.cells (hc T.h (.slice a2 T.l.length cap2)) 30)
  replace hB := bstep hB hB.size hb2
  clear hb2
  replace hp2 := hp2.alloc (.cells (hc T.h (.slice a2 T.l.length cap2)) 30)
  replace hi2 := hi2.alloc (.cells (hc T.h (.slice a2 T.l.length cap2)) 30)
  replace hB := hB.alloc hB.size (.cells (hc T.h (.slice a2 T.l.length cap2)) 30)
  replace hgA := Lib.hid hgA
  replace hgM := Lib.hid hgM
  replace hgC := Lib.hid hgC
  replace hg2 := Lib.hid hg2
  go_upto_region 3 with (first | go_skip | (refine st_new 30 _ _ rfl _ 30 _ rfl rfl rfl (hc T.h (.slice a2 T.l.length cap2)) rfl info30 rfl (hc_one _ _ rfl) ?_))
  replace hgA := hgA.out
  replace hgM := hgM.out
  replace hgC := hgC.out
  replace hg2 := hg2.out
  generalize hW : w2.alloc (.cells (hc T.h (.slice a2 T.l.length cap2)) 30) = W2 at *
  generalize hC2 : w2.heap.size = cb2 at *
  clear hW hC2
  go_wp2_with (first | go_skip | (refine ld_row 30 _ rfl rfl _ rfl _ _ _ _ hgA Try.underlying30 rfl info30 ?_))
  refine (untieHouse_any h l a cap _ hpA).mono ?_
  rw [hT]
  rintro e w3 ⟨⟨a3, cap3, v3, rfl, hp3, hO3⟩, hb3⟩
  obtain ⟨am, cm, rfl, hi3, _⟩ := hO3.at_
  rw [nats_len]
  clear hO3
  have hg3 := hnew w3 (.cells (hc T.h (.slice a3 T.l.length cap3)) 30)
  replace hgA := hold (hkeep hb3 hgA) (.cells (hc T.h (.slice a3 T.l.length cap3)) 30)
  replace hgM := hold (hkeep hb3 hgM) (.cells (hc T.h (.slice a3 T.l.length cap3)) 30)
  replace hgC := hold (hkeep hb3 hgC) (.cells (hc T.h (.slice a3 T.l.length cap3)) 30)
  replace hg2 := hold (hkeep hb3 hg2) (.cells (hc T.h (.slice a3 T.l.length cap3)) 30)
  replace hpA := (hpA.below hb3).alloc (.cells (hc T.h (.slice a3 T.l.length cap3)) 30)
  replace hpC := (hpC.below hb3).alloc (.cells (hc T.h (.slice a3 T.l.length cap3)) 30)
  replace hp2 := (hp2.below hb3).alloc (.cells (hc T.h (.slice a3 T.l.length cap3)) 30)
  replace hi2 := (hi2.below hb3).alloc (.cells (hc T.h (.slice a3 T.l.length cap3)) 30)
  replace hB := bstep hB hB.size hb3
  clear hb3
  replace hp3 := hp3.alloc (.cells (hc T.h (.slice a3 T.l.length cap3)) 30)
  replace hi3 := hi3.alloc (.cells (hc T.h (.slice a3 T.l.length cap3)) 30)
  replace hB := hB.alloc hB.size (.cells (hc T.h (.slice a3 T.l.length cap3)) 30)
  replace hgA := Lib.hid hgA
  replace hgM := Lib.hid hgM
  replace hgC := Lib.hid hgC
  replace hg2 := Lib.hid hg2
  replace hg3 := Lib.hid hg3
  go_upto_region 4 with (first | go_skip | (refine st_new 30 _ _ rfl _ 30 _ rfl rfl rfl (hc T.h (.slice a3 T.l.length cap3)) rfl info30 rfl (hc_one _ _ rfl) ?_))
  replace hgA := hgA.out
  replace hgM := hgM.out
  replace hgC := hgC.out
  replace hg2 := hg2.out
  replace hg3 := hg3.out
  generalize hW : w3.alloc (.cells (hc T.h (.slice a3 T.l.length cap3)) 30) = W3 at *
  generalize hC3 : w3.heap.size = cb3 at *
  clear hW hC3
  clear hT
  obtain ⟨tb, htb⟩ : ∃ tb, togB h l n = tb := ⟨_, rfl⟩
  obtain ⟨mn, hmn⟩ : ∃ mn, mostN h l = mn := ⟨_, rfl⟩
  have cT : ∀ x : Wd (Below W3.heap.size W3), Calls Try.prog 59 #[.agg (hc h (.slice a' l.length cap')), .agg (nc n)] x.w fun e w' => e = .returned (.bool tb) ∧ Below x.w.heap.size x.w w' := fun x => by rw [← htb]; exact together_any h l a' cap' n x.w (hpC.below x.ok)
  have cA : ∀ x : Wd (Below W3.heap.size W3), Calls Try.prog 60 #[.agg (hc h (.slice a l.length cap)), .agg (nc n)] x.w fun e w' => e = .returned (.bool tb) ∧ Below x.w.heap.size x.w w' := fun x => by rw [← htb]; exact allTogether_any h l a cap n x.w (hpA.below x.ok)
  have cM : ∀ x : Wd (Below W3.heap.size W3), Calls Try.prog 56 #[.agg (hc h (.slice a' l.length cap'))] x.w fun e w' => e = .returned (.agg (nc mn)) ∧ Below x.w.heap.size x.w w' := fun x => by rw [← hmn]; exact most_any h l a' cap' x.w (hpC.below x.ok)
  have cO : ∀ x : Wd (Below W3.heap.size W3), Calls Try.prog 61 #[.agg (hc h (.slice a l.length cap))] x.w fun e w' => e = .returned (.agg (nc mn)) ∧ Below x.w.heap.size x.w w' := fun x => by rw [← hmn]; exact mostOf_any h l a cap x.w (hpA.below x.ok)
  have cS : ∀ (x : Wd (Below W3.heap.size W3)) (h' : Hs) (l' : List Pay) (p q : Option Addr) (c d : Nat), PaysAt W3 p c l' → PaysAt W3 q d l' → Calls Try.prog 18 #[.agg (hc h' (.slice p l'.length c)), .agg (hc h' (.slice q l'.length d))] x.w fun e w' => e = .returned (.bool true) ∧ Below x.w.heap.size x.w w' := fun x h' l' p q c d h1 h2 => sameHouse_eq h' l' p q c d x.w (h1.below x.ok) (h2.below x.ok)
  have cI : ∀ x : Wd (Below W3.heap.size W3), Calls Try.prog 44 #[.slice al T.d.length cl, .slice am T.d.length cm] x.w fun e w' => e = .returned (.bool true) ∧ Below x.w.heap.size x.w w' := fun x => sameInts_eq T.d al am cl cm x.w (hi2.below x.ok) (hi3.below x.ok)
  have cK : ∀ x : Wd (Below W3.heap.size W3), Calls Try.prog 62 #[] x.w fun e w' => e = .returned (.bool true) ∧ Below x.w.heap.size x.w w' := fun x => knotsL_any x.w
  have htt : (tb == tb) = true := by simp
  clear hi2 hi3
  replace htb := Lib.hid htb
  replace hmn := Lib.hid hmn
  replace cT := Lib.hid cT
  replace cA := Lib.hid cA
  replace cM := Lib.hid cM
  replace cO := Lib.hid cO
  replace cS := Lib.hid cS
  replace cI := Lib.hid cI
  replace cK := Lib.hid cK
  refine calm_region (Below W3.heap.size W3) (by kernel_rfl) (by kernel_rfl) (calm_start W3) ?_
  repeat (first | go_big_quiet_skip | (go_big_quiet_want; first
    | (refine calm_row 30 _ rfl _ rfl _ _ _ _ (calm_heap hgA) Try.underlying30 rfl info30 ?_; (try simp only [Act.put]); (try simp only [List.setIfInBounds_toArray]); (try simp only [List.set_cons_succ]); (try simp only [List.set_cons_zero]); go_big_quiet_on)
    | (refine calm_row 30 _ rfl _ rfl _ _ _ _ (calm_heap hgC) Try.underlying30 rfl info30 ?_; (try simp only [Act.put]); (try simp only [List.setIfInBounds_toArray]); (try simp only [List.set_cons_succ]); (try simp only [List.set_cons_zero]); go_big_quiet_on)
    | (refine calm_row 30 _ rfl _ rfl _ _ _ _ (calm_heap hg2) Try.underlying30 rfl info30 ?_; (try simp only [Act.put]); (try simp only [List.setIfInBounds_toArray]); (try simp only [List.set_cons_succ]); (try simp only [List.set_cons_zero]); go_big_quiet_on)
    | (refine calm_row 30 _ rfl _ rfl _ _ _ _ (calm_heap hg3) Try.underlying30 rfl info30 ?_; (try simp only [Act.put]); (try simp only [List.setIfInBounds_toArray]); (try simp only [List.set_cons_succ]); (try simp only [List.set_cons_zero]); go_big_quiet_on)
    | (refine calm_row 26 _ rfl _ rfl _ _ _ _ (calm_heap hgM) Try.underlying26 rfl info26 ?_; (try simp only [Act.put]); (try simp only [List.setIfInBounds_toArray]); (try simp only [List.set_cons_succ]); (try simp only [List.set_cons_zero]); go_big_quiet_on)
    | (go_big_quiet_op; first | go_big_quiet_on | go_big_quiet_call (first | (go_at_call 59; exact calm_call (calm_below _) (cT.out _)) | (go_at_call 60; exact calm_call (calm_below _) (cA.out _)) | (go_at_call 56; exact calm_call (calm_below _) (cM.out _)) | (go_at_call 61; exact calm_call (calm_below _) (cO.out _)) | (go_at_call 18; exact calm_call (calm_below _) (cS.out _ _ _ _ _ _ _ (by assumption) (by assumption))) | (go_at_call 44; exact calm_call (calm_below _) (cI.out _)) | (go_at_call 62; exact calm_call (calm_below _) (cK.out _))))))
  refine wpQuiet_nil ?_
  intro w8 hI
  go_wp2_with fail
  go_ret
  exact ⟨rfl, bstep hB hB.size hI⟩
end Go.Proofs.Ytggfdkkhlokmlaa

