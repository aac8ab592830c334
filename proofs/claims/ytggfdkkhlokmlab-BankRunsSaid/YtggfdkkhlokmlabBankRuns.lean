/- BankRuns: the walk. -/
import Derived.Test.YtggfdkkhlokmlabBoth
import Derived.Test.YtggfdkkhlokmlabRun
import Derived.Test.YtggfdkkhlokmlabCMem
import Derived.Test.YtggfdkkhlokmlabCSel
set_option linter.unusedSimpArgs false
namespace Go.Proofs.Ytggfdkkhlokmlab
open Go.RowKit
attribute [local go_sem] hc_pays hc_next hc_size rc_0 rc_1 rc_2 rc_size dc_0 dc_1 dc_2 dc_3 dc_4 dc_size
theorem acts_one (w : World) (d : Deed) {C : Array Value} (h : C = dc d) : ActsAt (w.alloc (.cells C 40)) (some ⟨w.heap.size, 0, none⟩) 1 [d] := by
 subst h
 exact ⟨by simp, by unfold maxLen; omega, by simp, by simp, fun _ => ⟨w.heap.size, 0, rfl, by simp, fun i p hp j v hv => by
  have hi : i = 0 := by
   have := (List.getElem?_eq_some_iff.1 hp).1
   simp at this; exact this
  subst hi
  simp only [List.getElem?_cons_zero, Option.some.injEq] at hp
  subst hp
  rw [show 0 + (0 * 5 + j) = j by omega]
  exact (cells_at (hnew w (.cells (dc d) 40)) j).trans hv⟩⟩
set_option maxRecDepth 100000 in
set_option maxHeartbeats 16000000 in
theorem bankRuns_any (l : List Deed) (a : Option Addr) (cap : Nat) (w : World) (ha : ActsAt w a cap l) :
  Calls Try.prog 7 #[.slice a l.length cap] w fun e w' => e = .returned (.bool true) ∧ Below w.heap.size w w' := by
 have hml : l.length ≤ 9223372036854775807 := by have h1 := ha.le; have h2 := ha.capm; unfold maxLen at h2; omega
 have hn5 : ∀ zs : List (Rp × Value), zs.map (·.1) = Rl [⟨99, 0, 0, 0, 0⟩] 1 → zs.length = 1 := fun zs h => by
  have h1 := congrArg List.length h
  rw [rl_length (by simp), List.length_map] at h1
  exact h1
 replace ha := Lib.hid ha
 replace hn5 := Lib.hid hn5
 go_enter Try.func7, Try.ntmps7
 by_cases hl : 200 < l.length
 ·have hd : decide ((l.length : Int) > 200) = true := decide_eq_true (by omega)
  have hd' : decide (200 < (l.length : Int)) = true := decide_eq_true (by omega)
  go_upto_region 2 with (first | go_skip | (at_builtin; refine wpList_append_acts rfl _ _ rfl rfl a cap l.length l rfl rfl rfl ha.out ?_; intro v2 w2 ho2 hb2; obtain ⟨a2, cap2, rfl, hp2, _⟩ := ho2.at_) | (go_at_call 28; refine (run_many l a2 cap2 _ hp2 hl).mono ?_; rintro e w3 ⟨rfl, hb3⟩))
  have hB3 := bstep hb2 hb2.size hb3
  clear hp2 ho2 hb2 hb3
  have cN : ∀ C, C = dc ⟨99, 0, 0, 0, 0⟩ → Calls Try.prog 28 #[.slice (some ⟨w3.heap.size, 0, none⟩) 1 1] (w3.alloc (.cells C 40)) (RunPost [⟨99, 0, 0, 0, 0⟩] (w3.alloc (.cells C 40))) := fun C h => run_any [⟨99, 0, 0, 0, 0⟩] _ 1 _ (acts_one w3 _ h) (by simp)
  replace cN := Lib.hid cN
  go_upto_region 3 with (first | go_skip | (go_at_call 28; refine (cN.out _ (by rfl)).mono ?_; rintro e w5 ⟨⟨v5, zs5, rfl, hz5, hr5⟩, hb5⟩; obtain ⟨a5, cap5, rfl, _⟩ := hr5.at_))
  rw [hn5.out zs5 hz5]
  have hB5 := (hB3.alloc hB3.size _).trans (hb5.mono (by rw [alloc_size]; have := hB3.size; omega))
  go_wp2_with fail
  go_ret
  exact ⟨rfl, hB5⟩
 ·have hd : decide ((l.length : Int) > 200) = false := decide_eq_false (by omega)
  have hd' : decide (200 < (l.length : Int)) = false := decide_eq_false (by omega)
  have hl2 : l.length ≤ 200 := by omega
  go_upto_region 2 with (first | go_skip | (at_builtin; refine wpList_append_acts rfl _ _ rfl rfl a cap l.length l rfl rfl rfl ha.out ?_; intro v2 w2 ho2 hb2; obtain ⟨a2, cap2, rfl, hp2, _⟩ := ho2.at_) | (go_at_call 28; refine (run_any l a2 cap2 _ hp2 hl2).mono ?_; rintro e w3 ⟨⟨v3, zs3, rfl, hz3, hr3⟩, hb3⟩))
  have hB3 := bstep hb2 hb2.size hb3
  clear hp2 ho2 hb2 hb3
  have hl3 : zs3.length = l.length := by
   have h1 := congrArg List.length hz3
   rw [rl_length (Nat.le_refl _), List.length_map] at h1
   exact h1
  have hls3 := hr3.list
  obtain ⟨a3, cap3, rfl, hw3⟩ := hr3.at_
  rw [hl3] at hw3 ⊢
  replace hw3 := Lib.hid hw3
  replace hls3 := Lib.hid hls3
  replace hz3 := Lib.hid hz3
  replace hl3 := Lib.hid hl3
  clear hr3
  have cN : ∀ C, C = dc ⟨99, 0, 0, 0, 0⟩ → Calls Try.prog 28 #[.slice (some ⟨w3.heap.size, 0, none⟩) 1 1] (w3.alloc (.cells C 40)) (RunPost [⟨99, 0, 0, 0, 0⟩] (w3.alloc (.cells C 40))) := fun C h => run_any [⟨99, 0, 0, 0, 0⟩] _ 1 _ (acts_one w3 _ h) (by simp)
  replace cN := Lib.hid cN
  go_upto_region 3 with (first | go_skip | (go_at_call 28; refine (cN.out _ (by rfl)).mono ?_; rintro e w5 ⟨⟨v5, zs5, rfl, hz5, hr5⟩, hb5⟩; obtain ⟨a5, cap5, rfl, _⟩ := hr5.at_))
  rw [hn5.out zs5 hz5]
  have hb35 : Below w3.heap.size w3 w5 := ((Below.refl w3.heap.size w3).alloc (Nat.le_refl _) _).trans (hb5.mono (by rw [alloc_size]; omega))
  have hB5 := bstep hB3 hB3.size hb35
  have q1 : ((l.length : Int) != (l.length : Int)) = false := by simp
  clear hB3 hb5 hr5 hz5 cN
  go_upto_region 6 with (first | go_skip | (go_at_call 29; refine (refNew_any _).mono ?_; rintro e w6 ⟨q, rfl, hqw, hrk, hb6⟩))
  have hk6 : RefAt w6 q (fun _ => False) (Bs l 0) := hrk fun _ => False
  clear hrk
  go_wp2_with fail
  go_loopg [8] l.length (fun g s8 wx => ∃ k : Nat, k ≤ l.length ∧ g = l.length - k ∧ s8 = .int .i64 k ∧ RefAt wx q (fun _ => False) (Bs l k) ∧ Below w5.heap.size w5 wx)
  case atStart => exact ⟨0, by omega, rfl, rfl, hk6, hb6⟩
  case round =>
   clear hk6 hb6
   obtain ⟨k, hk, rfl, rfl, hK, hbw⟩ := hrel
   by_cases h4 : k < l.length
   ·have hki : (k : Int) < (l.length : Int) := by omega
    have hd4 : decide ((k : Int) < l.length) = true := decide_eq_true hki
    obtain ⟨d, hpk⟩ : ∃ d, l[k]? = some d := ⟨l[k], List.getElem?_eq_getElem h4⟩
    obtain ⟨b1, o1, rfl, _, _⟩ := ha.out.row (by omega)
    have hcp : ∀ w', Below w5.heap.size w5 w' → ∀ j v, (dc d)[j]? = some v → w'.cell? ⟨b1, o1 + k * 5 + j, none⟩ = some v := fun w' hb j v hv => by
     obtain ⟨b', o', e', _, hc⟩ := (ha.out.below (bstep hB5 hB5.size hb)).row (by omega)
     cases e'
     rw [Nat.add_assoc]
     exact hc k d hpk j v hv
    obtain ⟨z3, hz3i⟩ : ∃ z, zs3[k]? = some z := ⟨zs3[k]'(by rw [hl3.out]; omega), List.getElem?_eq_getElem _⟩
    have hw := bs_works l k
    have hac : (Bs l k).acts ≤ 200 := by rw [bs_acts (by omega) (by omega)]; omega
    have cD2 := fun w hB hav => dor_any q (fun _ => False) (Bs l k) d w hB hav hw.small hw.fail hac
    rw [do_pair hpk] at cD2
    obtain ⟨r, hr⟩ : ∃ r, Rs l k d = r := ⟨_, rfl⟩
    rw [hr] at cD2
    have e3 : z3.1 = r := by
     have h := rl_get hpk (k := l.length) h4 (Nat.le_refl _)
     rw [← hz3.out, List.getElem?_map, hz3i] at h
     rw [← hr]; exact Option.some.inj h
    obtain ⟨K', hK'⟩ : ∃ K', Bs l (k + 1) = K' := ⟨_, rfl⟩
    rw [hK'] at cD2
    have o3 := hls3.out z3 (List.mem_of_getElem? hz3i)
    obtain ⟨g3, c3, rfl, hg3, hc3⟩ := hw3.out (by omega)
    have hp3 := hc3 k z3 hz3i
    obtain ⟨r3, u3⟩ := z3
    simp only at e3 o3 hp3
    subst e3
    obtain ⟨n3, m3, rfl, hi3, _⟩ := o3.at_
    have hrp : ∀ w', Below w5.heap.size w5 w' → ∀ j v, (rc r3.code r3.n (.slice n3 (nats r3.done).length m3))[j]? = some v → w'.cell? ⟨g3, k * 3 + j, none⟩ = some v := fun w' hb j v hv => (cells_at (hkeep hb (hkeep hb35 hg3)) _).trans (hp3 j v hv)
    have hi3' : ∀ w', Below w5.heap.size w5 w' → IntsAt w' n3 m3 (nats r3.done) := fun w' hb => (hi3.below hb35).below hb
    clear o3 hi3 hg3 hc3 hp3 hw hac
    generalize r3 = r at *
    replace hr := Lib.hid hr
    replace hK' := Lib.hid hK'
    replace hcp := Lib.hid hcp
    replace hrp := Lib.hid hrp
    replace hi3' := Lib.hid hi3'
    replace hpk := Lib.hid hpk
    replace hz3i := Lib.hid hz3i
    replace cD2 := Lib.hid cD2
    go_upto_region 11 with fail
    have hI0 : Below w5.heap.size w5 wr.drew := hbw.drew
    have hPd : RefAt wr.drew q (fun _ => False) (Bs l k) := hK.below (Below.refl _ _).drew
    clear hK hbw
    refine wpG_start (Below w5.heap.size w5) 10 (by kernel_rfl) ?_
    generalize World.drew wr = wd at *
    refine wpG_putT 57 (i := 0) (oi := _) (v := (.slice (some ⟨g3, 0, none⟩) l.length cap3)) rfl rfl (by kernel_rfl) (by kernel_rfl) (by kernel_rfl) (by kernel_rfl) (fun _ _ _ h => h) hI0 ?hy1 ?rs1
    case hy1 => exact Or.inl ⟨by rfl, by intro w' hb; go_simp⟩
    (try simp only [Act.put, List.setIfInBounds_toArray, List.set_cons_succ, List.set_cons_zero])
    refine wpG_putT 58 (i := 1) (oi := _) (v := (.int .i64 (k : Int))) rfl rfl (by kernel_rfl) (by kernel_rfl) (by kernel_rfl) (by kernel_rfl) (fun _ _ _ h => h) hI0 ?hy2 ?rs2
    case hy2 => exact Or.inl ⟨by rfl, by intro w' hb; go_simp⟩
    (try simp only [Act.put, List.setIfInBounds_toArray, List.set_cons_succ, List.set_cons_zero])
    refine wpG_putT 59 (i := 2) (oi := _) (v := (.pointer (some ⟨g3, k * 3, none⟩))) rfl rfl (by kernel_rfl) (by kernel_rfl) (by kernel_rfl) (by kernel_rfl) (fun _ _ _ h => h) hI0 ?hy3 ?rs3
    case hy3 => exact Or.inl ⟨by rfl, by intro w' hb; go_simp⟩
    (try simp only [Act.put, List.setIfInBounds_toArray, List.set_cons_succ, List.set_cons_zero])
    refine wpG_put 60 (i := 3) (oi := _) (v := (.agg (rc r.code r.n (.slice n3 (nats r.done).length m3)))) [3] rfl rfl (by kernel_rfl) (by kernel_rfl) (by kernel_rfl) (by kernel_rfl) (fun _ _ _ h => h) hI0 ?hy4 ?rs4
    case hy4 => exact yields_cells 44 _ rfl rfl g3 (k * 3) rfl (rc r.code r.n (.slice n3 (nats r.done).length m3)) _ (fun w' hb => hrp.out w' hb) Try.underlying44 rfl infoRp
    (try simp only [Act.put, List.setIfInBounds_toArray, List.set_cons_succ, List.set_cons_zero])
    refine wpG_putT 61 (i := 4) (oi := _) (v := (.pointer (some ⟨q, 0, none⟩))) rfl rfl (by kernel_rfl) (by kernel_rfl) (by kernel_rfl) (by kernel_rfl) (fun _ _ _ h => h) hI0 ?hy5 ?rs5
    case hy5 => exact Or.inl ⟨by rfl, by intro w' hb; go_simp⟩
    (try simp only [Act.put, List.setIfInBounds_toArray, List.set_cons_succ, List.set_cons_zero])
    refine wpG_putT 62 (i := 5) (oi := _) (v := (.slice (some ⟨b1, o1, none⟩) l.length cap)) rfl rfl (by kernel_rfl) (by kernel_rfl) (by kernel_rfl) (by kernel_rfl) (fun _ _ _ h => h) hI0 ?hy6 ?rs6
    case hy6 => exact Or.inl ⟨by rfl, by intro w' hb; go_simp⟩
    (try simp only [Act.put, List.setIfInBounds_toArray, List.set_cons_succ, List.set_cons_zero])
    refine wpG_putT 63 (i := 6) (oi := _) (v := (.int .i64 (k : Int))) rfl rfl (by kernel_rfl) (by kernel_rfl) (by kernel_rfl) (by kernel_rfl) (fun _ _ _ h => h) hI0 ?hy7 ?rs7
    case hy7 => exact Or.inl ⟨by rfl, by intro w' hb; go_simp⟩
    (try simp only [Act.put, List.setIfInBounds_toArray, List.set_cons_succ, List.set_cons_zero])
    refine wpG_putT 64 (i := 7) (oi := _) (v := (.pointer (some ⟨b1, o1 + k * 5, none⟩))) rfl rfl (by kernel_rfl) (by kernel_rfl) (by kernel_rfl) (by kernel_rfl) (fun _ _ _ h => h) hI0 ?hy8 ?rs8
    case hy8 => exact Or.inl ⟨by rfl, by intro w' hb; go_simp⟩
    (try simp only [Act.put, List.setIfInBounds_toArray, List.set_cons_succ, List.set_cons_zero])
    refine wpG_put 65 (i := 8) (oi := _) (v := (.agg (dc d))) [9, 8] rfl rfl (by kernel_rfl) (by kernel_rfl) (by kernel_rfl) (by kernel_rfl) (fun _ _ _ h => h) hI0 ?hy9 ?rs9
    case hy9 => exact yields_cells 40 _ rfl rfl b1 (o1 + k * 5) rfl (dc d) _ (fun w' hb => hcp.out w' hb) Try.underlying40 rfl info44
    (try simp only [Act.put, List.setIfInBounds_toArray, List.set_cons_succ, List.set_cons_zero])
    refine wpG_one (i := 9) (by kernel_rfl) rfl ?_
    go_wp2_with (first | go_skip | (go_at_call 30; refine (cD2.out wd hPd (fun x e => e.elim)).mono ?_; rintro e w8 ⟨v8, rfl, ho8, hk8, hO8⟩))
    have hK8 : RefAt w8 q (fun _ => False) K' := hk8.mono fun _ e => e.elim
    have hB8 : Below w5.heap.size w5 w8 := ((only_new (av := fun b => w5.heap.size ≤ b) hI0).step hO8 fun b e => by left; omega).below (Nat.le_refl _) fun _ h => h
    obtain ⟨al, cl, rfl, hi8, _⟩ := ho8.at_
    clear hPd hk8 hO8 hI0 cD2 ho8
    have cS := fun w ha hb => sameReply_eq r.code r.n r.done n3 al m3 cl w ha hb
    rw [← nats_len r.done] at cS
    replace cS := Lib.hid cS
    refine ⟨hB8, ?_⟩
    (try simp only [Act.put, List.setIfInBounds_toArray, List.set_cons_succ, List.set_cons_zero])
    refine wpG_drop 10 rfl (by kernel_rfl) ?_
    simp only [List.drop_succ_cons, List.drop_zero]
    go_wp2_with (first | go_skip | (go_at_call 25; refine (cS.out w8 (hi3'.out _ hB8) hi8).mono ?_; rintro e w9 ⟨rfl, hb9⟩))
    have hK9 := hK8.below hb9
    have hB9 := bstep hB8 hB8.size hb9
    go_roundg (l.length - (k + 1))
    case measure => omega
    case rel => exact ⟨k + 1, by omega, rfl, by go_num, by rw [hK'.out]; exact hK9, hB9⟩
   ·have hd4 : decide ((k : Int) < l.length) = false := decide_eq_false (by omega)
    obtain rfl : k = l.length := by omega
    have hBr := bstep hB5 hB5.size hbw
    have har := ha.out.below hBr
    have cR := fun a cap w h => replay_any l a cap w h
    have cR2 := fun a cap w h => replayR_any l a cap w h
    obtain ⟨S, hS⟩ : ∃ S, replayL l = S := ⟨_, rfl⟩
    rw [hS] at cR cR2
    replace hS := Lib.hid hS
    replace cR := Lib.hid cR
    replace cR2 := Lib.hid cR2
    go_wp2_with (first | go_skip | (at_builtin; refine wpList_append_acts rfl _ _ rfl rfl a cap l.length l rfl rfl rfl har ?_; intro v7 w7 ho7 hb7; obtain ⟨a7, cap7, rfl, hp7, _⟩ := ho7.at_) | (go_at_call 31; refine (cR.out a7 cap7 _ hp7).mono ?_; rintro e w8 ⟨⟨a8, cap8, rfl, hp8, _⟩, hb8⟩; have hb78 := bstep hb7 hb7.size hb8) | (go_at_call 32; refine (cR2.out a cap _ (har.below hb78)).mono ?_; rintro e w9 ⟨⟨a9, cap9, rfl, hp9, _⟩, hb9⟩) | (go_at_call 27; refine (sameHouse_eq S.1 S.2 a8 a9 cap8 cap9 _ (hp8.below hb9) hp9).mono ?_; rintro e wz ⟨rfl, hbz⟩))
    go_ret
    exact ⟨rfl, bstep (bstep (bstep hBr hBr.size hb78) (bstep hBr hBr.size hb78).size hb9) (bstep (bstep hBr hBr.size hb78) (bstep hBr hBr.size hb78).size hb9).size hbz⟩
end Go.Proofs.Ytggfdkkhlokmlab


