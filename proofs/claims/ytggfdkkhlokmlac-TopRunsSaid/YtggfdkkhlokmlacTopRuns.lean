/- TopRuns: the walk. -/
import Derived.Test.YtggfdkkhlokmlacRun
import Derived.Test.YtggfdkkhlokmlacTopReply
import Derived.Test.YtggfdkkhlokmlacAlive
namespace Go.Proofs.Ytggfdkkhlokmlac
open Go.RowKit
attribute [local go_sem] rc_0 rc_1 rc_2 rc_size
set_option maxRecDepth 100000 in
set_option maxHeartbeats 4000000 in
theorem topRuns_any (l : List Deed) (a : Option Addr) (cap : Nat) (x : Int) (w : World) (ha : ActsAt w a cap l) :
    Calls Try.prog 6 #[.slice a l.length cap, .int .i64 x] w fun e w' => e = .returned (.bool true) ∧ Below w.heap.size w w' := by
  have hml : l.length ≤ 9223372036854775807 := by have h1 := ha.le; have h2 := ha.capm; unfold maxLen at h2; omega
  replace ha := Lib.hid ha
  go_enter Try.func6, Try.ntmps6
  by_cases hl : 80 < l.length
  · have hd : decide ((l.length : Int) > 80) = true := decide_eq_true (by omega)
    have hd' : decide (80 < (l.length : Int)) = true := decide_eq_true (by omega)
    go_upto_region 2 with (first | go_skip | (go_at_call 17; refine (aliveT_any _).mono ?_; rintro e w1 ⟨rfl, hb1⟩))
    go_wp2_with (first | go_skip | (go_at_call 17; refine (aliveT_any _).mono ?_; rintro e w2 ⟨rfl, hb2⟩))
    go_ret
    exact ⟨rfl, bstep hb1 hb1.size hb2⟩
  · have hd : decide ((l.length : Int) > 80) = false := decide_eq_false (by omega)
    have hd' : decide (80 < (l.length : Int)) = false := decide_eq_false (by omega)
    obtain ⟨t, ht⟩ : ∃ t, x.tmod ((l.length : Int) + 1) = t := ⟨_, rfl⟩
    have htb : -(l.length : Int) ≤ t ∧ t ≤ l.length := by
      have h2 : (x.tmod ((l.length : Int) + 1)).natAbs < ((l.length : Int) + 1).natAbs := by rw [Int.natAbs_tmod]; exact Nat.mod_lt _ (by omega)
      rw [ht] at h2
      omega
    obtain ⟨ht0, ht1⟩ := htb
    obtain ⟨k, hk⟩ : ∃ k : Nat, (t + l.length + 1).tmod ((l.length : Int) + 1) = k := ⟨((t + l.length + 1).tmod ((l.length : Int) + 1)).toNat, by
      have := Int.tmod_nonneg ((l.length : Int) + 1) (a := t + l.length + 1) (by omega)
      omega⟩
    have hkl : k ≤ l.length := by
      have h2 := Int.tmod_lt_of_pos (t + l.length + 1) (b := (l.length : Int) + 1) (by omega)
      omega
    have hkc : k ≤ cap := by have := ha.out.le; omega
    go_upto_region 3 with (first | go_skip | (go_at_call 17; refine (aliveT_any _).mono ?_; rintro e w1 ⟨rfl, hb1⟩))
    go_upto_region 4 with fail
    replace ht := Lib.hid ht
    replace hk := Lib.hid hk
    have ha1 := ha.out.below hb1
    go_upto_region 5 with (first | go_skip | (at_builtin; refine wpList_append_acts rfl _ _ rfl rfl a cap l.length l rfl rfl rfl ha1 ?_; intro v2 w2 ho2 hb2; obtain ⟨a2, cap2, rfl, hp2, _⟩ := ho2.at_) | (go_at_call 18; refine (run_any l a2 cap2 _ hp2 (by omega)).mono ?_; rintro e w3 ⟨⟨v3, zs3, rfl, hz3, hr3⟩, hb3⟩))
    have hB3 := bstep (bstep hb1 hb1.size hb2) (bstep hb1 hb1.size hb2).size hb3
    have ha3 := (ha.out.below hB3).take k
    have hkt : (l.take k).length = k := by rw [List.length_take]; omega
    clear ha1 hp2 ho2 hb1 hb2 hb3
    replace hr3 := Lib.hid hr3
    replace hz3 := Lib.hid hz3
    have cR := fun a cap w (h : ActsAt w a cap (l.take k)) => run_any (l.take k) a cap w h (by omega)
    rw [hkt] at cR
    replace cR := Lib.hid cR
    replace hkt := Lib.hid hkt
    go_upto_region 6 with (first | go_skip | (at_builtin; refine wpList_append_acts rfl _ _ rfl rfl a cap k (l.take k) rfl rfl hkt.out.symm ha3 ?_; intro v4 w4 ho4 hb4; obtain ⟨a4, cap4, rfl, hp4, _⟩ := ho4.at_; rw [hkt.out]) | (go_at_call 18; refine (cR.out a4 cap4 _ hp4).mono ?_; rintro e w5 ⟨⟨v5, zs5, rfl, hz5, hr5⟩, hb5⟩))
    have hB5 := bstep (bstep hB3 hB3.size hb4) (bstep hB3 hB3.size hb4).size hb5
    have hb35 := bstep hb4 hb4.size hb5
    have hr3' := hr3.out.below hb35
    have hz5' : zs5.map (·.1) = Rl (l.take k) k := by
      have h := hz5
      rw [hkt.out] at h
      exact h
    have hl3 : zs3.length = l.length := by
      have h1 := congrArg List.length hz3.out
      rw [rl_length (Nat.le_refl _), List.length_map] at h1
      exact h1
    have hl5 : zs5.length = k := by
      have h1 := congrArg List.length hz5'
      rw [rl_length (by rw [hkt.out]; exact Nat.le_refl _), List.length_map] at h1
      exact h1
    have hls3 := hr3'.list
    have hls5 := hr5.list
    obtain ⟨a3, cap3, rfl, hw3⟩ := hr3'.at_
    obtain ⟨aq, capq, rfl, hw5⟩ := hr5.at_
    rw [hl3] at hw3 ⊢
    rw [hl5] at hw5 ⊢
    clear hr3 hr3' hr5 hb4 hb5 hp4 ho4 ha3 hB3 hz5 hb35
    replace hl3 := Lib.hid hl3
    replace hl5 := Lib.hid hl5
    replace hls3 := Lib.hid hls3
    replace hls5 := Lib.hid hls5
    replace hz5' := Lib.hid hz5'
    replace hw3 := Lib.hid hw3
    replace hw5 := Lib.hid hw5
    have q1 : ((l.length : Int) != (l.length : Int)) = false := by simp
    have q2 : ((k : Int) != (k : Int)) = false := by simp
    go_wp2_with fail
    go_loopg [9] k (fun g s9 wr => ∃ i : Nat, i ≤ k ∧ g = k - i ∧ s9 = .int .i64 i ∧ Below w5.heap.size w5 wr)
    case atStart => exact ⟨0, by omega, rfl, rfl, Below.refl _ _⟩
    case round =>
      obtain ⟨i, hi, rfl, rfl, hbw⟩ := hrel
      by_cases h4 : i < k
      · have h4d : decide ((i : Int) < k) = true := decide_eq_true (by omega)
        obtain ⟨d, hpk⟩ : ∃ d, l[i]? = some d := ⟨l[i], List.getElem?_eq_getElem (by omega)⟩
        have hpk' : (l.take k)[i]? = some d := by rw [List.getElem?_take_of_lt h4]; exact hpk
        obtain ⟨z3, hz3i⟩ : ∃ z, zs3[i]? = some z := ⟨zs3[i]'(by rw [hl3.out]; omega), List.getElem?_eq_getElem _⟩
        obtain ⟨z5, hz5i⟩ : ∃ z, zs5[i]? = some z := ⟨zs5[i]'(by rw [hl5.out]; omega), List.getElem?_eq_getElem _⟩
        obtain ⟨r, hr⟩ : ∃ r, Rs l i d = r := ⟨_, rfl⟩
        have e3 : z3.1 = r := by
          have h := rl_get hpk (k := l.length) (by omega) (Nat.le_refl _)
          rw [← hz3.out, List.getElem?_map, hz3i] at h
          rw [← hr]; exact Option.some.inj h
        have e5 : z5.1 = r := by
          have h := rl_get hpk' (k := k) h4 (by rw [hkt.out]; exact Nat.le_refl _)
          rw [← hz5'.out, List.getElem?_map, hz5i, rs_take (by omega)] at h
          rw [← hr]; exact Option.some.inj h
        have o3 := (hls3.out z3 (List.mem_of_getElem? hz3i)).below hbw
        have o5 := (hls5.out z5 (List.mem_of_getElem? hz5i)).below hbw
        obtain ⟨g3, c3, rfl, hg3, hc3⟩ := hw3.out (by omega)
        obtain ⟨g5, c5, rfl, hg5, hc5⟩ := hw5.out (by omega)
        have hp3 := hc3 i z3 hz3i
        have hp5 := hc5 i z5 hz5i
        obtain ⟨r3, u3⟩ := z3
        obtain ⟨r5, u5⟩ := z5
        simp only at e3 e5 o3 o5 hp3 hp5
        replace e3 := e3.symm
        replace e5 := e5.symm
        subst e3
        subst e5
        obtain ⟨n3, m3, rfl, ho3, _⟩ := o3.at_
        obtain ⟨n5, m5, rfl, ho5, _⟩ := o5.at_
        rw [nats_len] at hp3 hp5
        have hgw3 := hkeep hbw hg3
        have hgw5 := hkeep hbw hg5
        have hq3 : ∀ x : Wd (Below wr.heap.size wr), IntsAt x.w n3 m3 (nats r.done) := fun x => ho3.below x.ok
        have hq5 : ∀ x : Wd (Below wr.heap.size wr), IntsAt x.w n5 m5 (nats r.done) := fun x => ho5.below x.ok
        clear o3 o5 ho3 ho5 hg3 hg5 hc3 hc5
        replace hp3 := Lib.hid hp3
        replace hp5 := Lib.hid hp5
        replace hq3 := Lib.hid hq3
        replace hq5 := Lib.hid hq5
        replace hpk := Lib.hid hpk
        replace hpk' := Lib.hid hpk'
        replace hz3i := Lib.hid hz3i
        replace hz5i := Lib.hid hz5i
        replace hr := Lib.hid hr
        have hi3 : (i : Int) < (l.length : Int) := by omega
        have hi3n : i < l.length := by omega
        go_upto_region 11 with fail
        refine calm_region (Below wr.heap.size wr) (by kernel_rfl) (by kernel_rfl) (calm_start wr) ?_
        repeat (first | go_big_quiet_skip | (go_big_quiet_want; first | (refine calm_mid 32 _ rfl g3 _ rfl _ _ (rc r.code r.n (.slice n3 r.done.length m3)) _ _ (calm_heap hgw3) Try.underlying32 rfl infoRp hp3.out ?_; (try simp only [Act.put]); (try simp only [List.setIfInBounds_toArray]); (try simp only [List.set_cons_succ]); (try simp only [List.set_cons_zero]); go_big_quiet_on) | (refine calm_mid 32 _ rfl g5 _ rfl _ _ (rc r.code r.n (.slice n5 r.done.length m5)) _ _ (calm_heap hgw5) Try.underlying32 rfl infoRp hp5.out ?_; (try simp only [Act.put]); (try simp only [List.setIfInBounds_toArray]); (try simp only [List.set_cons_succ]); (try simp only [List.set_cons_zero]); go_big_quiet_on) | (go_big_quiet_op; first | go_big_quiet_on | go_big_quiet_call (first | (go_at_call 10; exact calm_call (calm_below _) (topSameReply_eq r.code r.n r.done n3 n5 m3 m5 _ (hq3.out _) (hq5.out _)))))))
        refine wpQuiet_nil ?_
        intro w8 hI
        go_wp2_with fail
        go_roundg (k - (i + 1))
        case measure => omega
        case rel => exact ⟨i + 1, by omega, rfl, by go_num, hbw.trans (hI.mono hbw.size)⟩
      · have h4d : decide ((i : Int) < k) = false := decide_eq_false (by omega)
        go_wp2_with fail
        go_ret
        exact ⟨rfl, hB5.trans (hbw.mono hB5.size)⟩
end Go.Proofs.Ytggfdkkhlokmlac

