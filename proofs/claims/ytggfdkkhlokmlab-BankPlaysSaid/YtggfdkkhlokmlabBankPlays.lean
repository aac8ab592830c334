/- BankPlays: the walk. -/
import Derived.Test.YtggfdkkhlokmlabBoth
import Derived.Test.YtggfdkkhlokmlabCMem
import Derived.Test.YtggfdkkhlokmlabCSel
import Derived.Test.YtggfdkkhlokmlabPlayMath
set_option linter.unusedSimpArgs false
namespace Go.Proofs.Ytggfdkkhlokmlab
open Go.RowKit
attribute [local go_sem] hc_pays hc_next hc_size rc_0 rc_1 rc_2 rc_size bc_42 bc_43
set_option maxRecDepth 100000 in
set_option maxHeartbeats 16000000 in
theorem bankPlays_any (l : List Deed) (a : Option Addr) (cap : Nat) (w : World) (ha : ActsAt w a cap l) :
  Calls Try.prog 9 #[.slice a l.length cap] w fun e w' => e = .returned (.bool true) ∧ Below w.heap.size w w' := by
 have hml : l.length ≤ 9223372036854775807 := by have h1 := ha.le; have h2 := ha.capm; unfold maxLen at h2; omega
 replace ha := Lib.hid ha
 go_enter Try.func9, Try.ntmps9
 go_upto_region 2 with (first | go_skip | (go_at_call 37; refine (bankNew_any _).mono ?_; rintro e w1 ⟨p, rfl, hpw, hbk, hb1⟩) | (go_at_call 29; refine (refNew_any _).mono ?_; rintro e w2 ⟨q, rfl, hqw, hrk, hb2⟩))
 have hpl := (hbk fun x => x = q).lt
 have hP : Both w2 p q (Bs l 0) (Bs l 0) := ⟨(hbk fun x => x = q).below hb2, hrk fun x => x = p, by omega⟩
 have hB := bstep hb1 hb1.size hb2
 have hqw' : w.heap.size ≤ q := by have := hb1.size; omega
 clear hbk hrk hb1 hb2 hqw hpl
 obtain ⟨m, hm⟩ : ∃ m, min l.length 80 = m := ⟨_, rfl⟩
 go_wp2_with fail
 go_loopg [5] m (fun g s5 wx => ∃ k : Nat, k ≤ m ∧ g = m - k ∧ s5 = .int .i64 k ∧ Both wx p q (Bs l k) (Bs l k) ∧ Below w.heap.size w wx)
 case atStart => exact ⟨0, by omega, rfl, rfl, hP, hB⟩
 case round =>
  clear hP hB
  obtain ⟨k, hk, rfl, rfl, hP, hB⟩ := hrel
  by_cases h4 : k < m
  ·have hkl : k < l.length := by omega
   have hki : (k : Int) < (l.length : Int) := by omega
   have hk8 : (k : Int) < 80 := by omega
   have hd4 : decide ((k : Int) < l.length) = true := decide_eq_true hki
   have hd8 : decide ((k : Int) < 80) = true := decide_eq_true hk8
   obtain ⟨d, hpk⟩ : ∃ d, l[k]? = some d := ⟨l[k], List.getElem?_eq_getElem hkl⟩
   obtain ⟨b1, o1, rfl, _, _⟩ := ha.out.row (by omega)
   have hcp : ∀ w', Below w.heap.size w w' → ∀ j v, (dc d)[j]? = some v → w'.cell? ⟨b1, o1 + k * 5 + j, none⟩ = some v := fun w' hb j v hv => by
    obtain ⟨b', o', e', _, hc⟩ := (ha.out.below hb).row (by omega)
    cases e'
    rw [Nat.add_assoc]
    exact hc k d hpk j v hv
   have hw := bs_works l k
   have hac : (Bs l k).acts ≤ 200 := by rw [bs_acts (by omega) (by omega)]; omega
   have cD1 := fun w hB hav => do_any p (fun x => x = q) (Bs l k) d w hB hav hw.small hw.fail
   have cD2 := fun w hB hav => dor_any q (fun x => x = p) (Bs l k) d w hB hav hw.small hw.fail hac
   rw [do_pair hpk] at cD1 cD2
   obtain ⟨r, hr⟩ : ∃ r, Rs l k d = r := ⟨_, rfl⟩
   rw [hr] at cD1 cD2
   obtain ⟨K', hK'⟩ : ∃ K', Bs l (k + 1) = K' := ⟨_, rfl⟩
   rw [hK'] at cD1 cD2
   replace hr := Lib.hid hr
   replace hK' := Lib.hid hK'
   replace hcp := Lib.hid hcp
   replace hpk := Lib.hid hpk
   replace cD1 := Lib.hid cD1
   replace cD2 := Lib.hid cD2
   replace hm := Lib.hid hm
   clear hw hac
   go_upto_region 7 with fail
   have hI0 : Below w.heap.size w wr.drew := hB.drew
   have hPd : Both wr.drew p q (Bs l k) (Bs l k) := hP.below (Below.refl _ _).drew
   clear hP hB
   refine wpG_start (Below w.heap.size w) 12 (by kernel_rfl) ?_
   generalize World.drew wr = wd at *
   refine wpG_putT 22 (i := 0) (oi := _) (v := (.pointer (some ⟨p, 0, none⟩))) rfl rfl (by kernel_rfl) (by kernel_rfl) (by kernel_rfl) (by kernel_rfl) (fun _ _ _ h => h) hI0 ?hy1 ?rs1
   case hy1 => exact Or.inl ⟨by rfl, by intro w' hb; go_simp⟩
   (try simp only [Act.put, List.setIfInBounds_toArray, List.set_cons_succ, List.set_cons_zero])
   refine wpG_putT 23 (i := 1) (oi := _) (v := (.slice (some ⟨b1, o1, none⟩) l.length cap)) rfl rfl (by kernel_rfl) (by kernel_rfl) (by kernel_rfl) (by kernel_rfl) (fun _ _ _ h => h) hI0 ?hy2 ?rs2
   case hy2 => exact Or.inl ⟨by rfl, by intro w' hb; go_simp⟩
   (try simp only [Act.put, List.setIfInBounds_toArray, List.set_cons_succ, List.set_cons_zero])
   refine wpG_putT 24 (i := 2) (oi := _) (v := (.int .i64 (k : Int))) rfl rfl (by kernel_rfl) (by kernel_rfl) (by kernel_rfl) (by kernel_rfl) (fun _ _ _ h => h) hI0 ?hy3 ?rs3
   case hy3 => exact Or.inl ⟨by rfl, by intro w' hb; go_simp⟩
   (try simp only [Act.put, List.setIfInBounds_toArray, List.set_cons_succ, List.set_cons_zero])
   refine wpG_putT 25 (i := 3) (oi := _) (v := (.pointer (some ⟨b1, o1 + k * 5, none⟩))) rfl rfl (by kernel_rfl) (by kernel_rfl) (by kernel_rfl) (by kernel_rfl) (fun _ _ _ h => h) hI0 ?hy4 ?rs4
   case hy4 => exact Or.inl ⟨by rfl, by intro w' hb; go_simp⟩
   (try simp only [Act.put, List.setIfInBounds_toArray, List.set_cons_succ, List.set_cons_zero])
   refine wpG_put 26 (i := 4) (oi := _) (v := (.agg (dc d))) [5, 4] rfl rfl (by kernel_rfl) (by kernel_rfl) (by kernel_rfl) (by kernel_rfl) (fun _ _ _ h => h) hI0 ?hy5 ?rs5
   case hy5 => exact yields_cells 40 _ rfl rfl b1 (o1 + k * 5) rfl (dc d) _ (fun w' hb => hcp.out w' hb) Try.underlying40 rfl info44
   (try simp only [Act.put, List.setIfInBounds_toArray, List.set_cons_succ, List.set_cons_zero])
   refine wpG_putT 28 (i := 6) (oi := _) (v := (.pointer (some ⟨q, 0, none⟩))) rfl rfl (by kernel_rfl) (by kernel_rfl) (by kernel_rfl) (by kernel_rfl) (fun _ _ _ h => h) hI0 ?hy6 ?rs6
   case hy6 => exact Or.inl ⟨by rfl, by intro w' hb; go_simp⟩
   (try simp only [Act.put, List.setIfInBounds_toArray, List.set_cons_succ, List.set_cons_zero])
   refine wpG_putT 29 (i := 7) (oi := _) (v := (.slice (some ⟨b1, o1, none⟩) l.length cap)) rfl rfl (by kernel_rfl) (by kernel_rfl) (by kernel_rfl) (by kernel_rfl) (fun _ _ _ h => h) hI0 ?hy7 ?rs7
   case hy7 => exact Or.inl ⟨by rfl, by intro w' hb; go_simp⟩
   (try simp only [Act.put, List.setIfInBounds_toArray, List.set_cons_succ, List.set_cons_zero])
   refine wpG_putT 30 (i := 8) (oi := _) (v := (.int .i64 (k : Int))) rfl rfl (by kernel_rfl) (by kernel_rfl) (by kernel_rfl) (by kernel_rfl) (fun _ _ _ h => h) hI0 ?hy8 ?rs8
   case hy8 => exact Or.inl ⟨by rfl, by intro w' hb; go_simp⟩
   (try simp only [Act.put, List.setIfInBounds_toArray, List.set_cons_succ, List.set_cons_zero])
   refine wpG_putT 31 (i := 9) (oi := _) (v := (.pointer (some ⟨b1, o1 + k * 5, none⟩))) rfl rfl (by kernel_rfl) (by kernel_rfl) (by kernel_rfl) (by kernel_rfl) (fun _ _ _ h => h) hI0 ?hy9 ?rs9
   case hy9 => exact Or.inl ⟨by rfl, by intro w' hb; go_simp⟩
   (try simp only [Act.put, List.setIfInBounds_toArray, List.set_cons_succ, List.set_cons_zero])
   refine wpG_put 32 (i := 10) (oi := _) (v := (.agg (dc d))) [11, 10] rfl rfl (by kernel_rfl) (by kernel_rfl) (by kernel_rfl) (by kernel_rfl) (fun _ _ _ h => h) hI0 ?hy10 ?rs10
   case hy10 => exact yields_cells 40 _ rfl rfl b1 (o1 + k * 5) rfl (dc d) _ (fun w' hb => hcp.out w' hb) Try.underlying40 rfl info44
   (try simp only [Act.put, List.setIfInBounds_toArray, List.set_cons_succ, List.set_cons_zero])
   refine wpG_one (i := 5) (by kernel_rfl) rfl ?_
   go_wp2_with (first | go_skip | (go_at_call 26; refine (cD1.out wd hPd.bank (fun x e => by rw [e]; exact hPd.ref.lt)).mono ?_; rintro e w1 ⟨v1, rfl, ho1, hk1, hO1⟩))
   have hP1 := hPd.did1 hk1 hO1
   have hB1 : Below w.heap.size w w1 := ((only_new (av := fun b => w.heap.size ≤ b) hI0).step hO1 fun b e => by left; omega).below (Nat.le_refl _) fun _ h => h
   have hql := hPd.ref.lt
   obtain ⟨al1, cl1, rfl, _, _⟩ := ho1.at_
   clear hPd hk1 hO1 hI0 cD1
   refine ⟨hB1, ?_⟩
   (try simp only [Act.put, List.setIfInBounds_toArray, List.set_cons_succ, List.set_cons_zero])
   refine wpG_one (i := 11) (by kernel_rfl) rfl ?_
   go_wp2_with (first | go_skip | (go_at_call 30; refine (cD2.out w1 hP1.ref (fun x e => by rw [e]; exact hP1.bank.lt)).mono ?_; rintro e w2 ⟨v2, rfl, ho2, hk2, hO2⟩))
   have hP2 := hP1.did2 hk2 hO2
   have hB2 : Below w.heap.size w w2 := ((only_new (av := fun b => w.heap.size ≤ b) hB1).step hO2 fun b e => by left; omega).below (Nat.le_refl _) fun _ h => h
   obtain ⟨al2, cl2, rfl, hi2, _⟩ := ho2.at_
   obtain ⟨_, _, e1, hi1, _⟩ := (hO2.ints ho1 fun x hx => by have := ho1.own hx; omega).at_
   simp only [Value.slice.injEq, true_and] at e1
   obtain ⟨rfl, rfl⟩ := e1
   clear hP1 hk2 hO2 hB1 ho1 ho2 cD2
   have cS := fun w ha hb => sameReply_eq r.code r.n r.done al1 al2 cl1 cl2 w ha hb
   rw [← nats_len r.done] at cS
   replace cS := Lib.hid cS
   refine ⟨hB2, ?_⟩
   (try simp only [Act.put, List.setIfInBounds_toArray, List.set_cons_succ, List.set_cons_zero])
   refine wpG_one (i := 12) (by kernel_rfl) rfl ?_
   go_wp2_with (first | go_skip | (go_at_call 25; refine (cS.out w2 hi1 hi2).mono ?_; rintro e w3 ⟨rfl, hb3⟩))
   have hP3 := hP2.below hb3
   have hB3 := bstep hB2 hB2.size hb3
   clear hP2 hb3 hB2 hi1 hi2 cS
   obtain ⟨aq, capq, hq, hpq, _⟩ := hP3.ref.box
   refine ⟨hB3, ?_⟩
   (try simp only [Act.put, List.setIfInBounds_toArray, List.set_cons_succ, List.set_cons_zero])
   refine wpG_one (i := 13) (by kernel_rfl) rfl ?_
   go_wp2_with fail
   refine ⟨hB3, ?_⟩
   (try simp only [Act.put, List.setIfInBounds_toArray, List.set_cons_succ, List.set_cons_zero])
   refine wpG_one (i := 14) (by kernel_rfl) rfl ?_
   go_wp2_with fail
   refine ⟨hB3, ?_⟩
   (try simp only [Act.put, List.setIfInBounds_toArray, List.set_cons_succ, List.set_cons_zero])
   refine wpG_next (I' := Below w3.heap.size w3) (g' := 21) _ _ _ _ rfl ?_
   have hI3 : Below w3.heap.size w3 w3 := Below.refl _ _
   refine wpG_putT 37 (i := 15) (oi := _) (v := (.pointer (some ⟨p, 0, none⟩))) rfl rfl (by kernel_rfl) (by kernel_rfl) (by kernel_rfl) (by kernel_rfl) (fun _ _ _ h => h) hI3 ?hy11 ?rs11
   case hy11 => exact Or.inl ⟨by rfl, by intro w' hb; go_simp⟩
   (try simp only [Act.put, List.setIfInBounds_toArray, List.set_cons_succ, List.set_cons_zero])
   refine wpG_putT 39 (i := 17) (oi := _) (v := (.pointer (some ⟨q, 0, none⟩))) rfl rfl (by kernel_rfl) (by kernel_rfl) (by kernel_rfl) (by kernel_rfl) (fun _ _ _ h => h) hI3 ?hy12 ?rs12
   case hy12 => exact Or.inl ⟨by rfl, by intro w' hb; go_simp⟩
   (try simp only [Act.put, List.setIfInBounds_toArray, List.set_cons_succ, List.set_cons_zero])
   refine wpG_putT 40 (i := 18) (oi := _) (v := (.pointer (some ⟨q, 0, none⟩))) rfl rfl (by kernel_rfl) (by kernel_rfl) (by kernel_rfl) (by kernel_rfl) (fun _ _ _ h => h) hI3 ?hy13 ?rs13
   case hy13 => exact Or.inl ⟨by rfl, by intro w' hb; go_simp⟩
   (try simp only [Act.put, List.setIfInBounds_toArray, List.set_cons_succ, List.set_cons_zero])
   refine wpG_putT 41 (i := 19) (oi := _) (v := (.pointer (some ⟨q, 0, none⟩))) rfl rfl (by kernel_rfl) (by kernel_rfl) (by kernel_rfl) (by kernel_rfl) (fun _ _ _ h => h) hI3 ?hy14 ?rs14
   case hy14 => exact Or.inl ⟨by rfl, by intro w' hb; go_simp⟩
   (try simp only [Act.put, List.setIfInBounds_toArray, List.set_cons_succ, List.set_cons_zero])
   refine wpG_put 42 (i := 20) (oi := _) (v := (.agg (hc K'.h (.slice aq K'.l.length capq)))) [20] rfl rfl (by kernel_rfl) (by kernel_rfl) (by kernel_rfl) (by kernel_rfl) (fun _ _ _ h => h) hI3 ?hy15 ?rs15
   case hy15 => exact yields_cells 29 _ rfl rfl q 0 rfl _ _ (fun w' hb j v hv => (cells_at (hkeep hb hq) _).trans (bc_h _ _ _ _ _ _ j v hv)) Try.underlying29 rfl info30
   (try simp only [Act.put, List.setIfInBounds_toArray, List.set_cons_succ, List.set_cons_zero])
   refine wpG_one (i := 16) (by kernel_rfl) rfl ?_
   go_wp2_with (first | go_skip | (go_at_call 21; refine (bankHouse_any p _ K' _ hP3.bank).mono ?_; rintro e w4 ⟨⟨u, rfl, hown⟩, hb4⟩; obtain ⟨a4, cap4, rfl, hp4, _⟩ := hown.at_))
   refine ⟨hb4, ?_⟩
   (try simp only [Act.put, List.setIfInBounds_toArray, List.set_cons_succ, List.set_cons_zero])
   refine wpG_drop 21 rfl (by kernel_rfl) ?_
   simp only [List.drop_succ_cons, List.drop_zero]
   go_upto_region 9 with (first | go_skip | (go_at_call 27; refine (sameHouse_eq K'.h K'.l a4 aq cap4 capq _ hp4 (hpq.below hb4)).mono ?_; rintro e w5 ⟨rfl, hb5⟩))
   have hP5 := (hP3.below hb4).below hb5
   have hq5 := hkeep hb5 (hkeep hb4 hq)
   have hB5 := bstep (bstep hB3 hB3.size hb4) (bstep hB3 hB3.size hb4).size hb5
   clear hI3 hb4 hb5 hP3 hq hpq hp4 hown hB3
   have cB := fun w h => bankBook_any p (fun x => x = q) K' w h
   obtain ⟨sf, hsf⟩ : ∃ sf, str K'.text = sf := ⟨_, rfl⟩
   obtain ⟨dn, hdn⟩ : ∃ dn, K'.down = dn := ⟨_, rfl⟩
   have cQ0 : ∀ w', Below w5.heap.size w5 w' → w'.cell? ⟨q, 42, none⟩ = some (.string sf) ∧ w'.cell? ⟨q, 43, none⟩ = some (.bool dn) := fun w' hb => ⟨(cells_at (hkeep hb hq5) 42).trans (by rw [bc_42, hsf]), (cells_at (hkeep hb hq5) 43).trans (by rw [bc_43, hdn])⟩
   simp only [hsf, hdn] at cB
   replace cB := Lib.hid cB
   replace cQ0 := Lib.hid cQ0
   replace hsf := Lib.hid hsf
   replace hdn := Lib.hid hdn
   clear hq5
   go_upto_region 10 with (first | go_skip | (go_at_call 24; refine (cB.out w5 hP5.bank).mono ?_; rintro e w6 ⟨rfl, hb6⟩))
   obtain ⟨cQ1, cQ2⟩ := cQ0.out w6 hb6
   have hP6 := hP5.below hb6
   have hB6 := bstep hB5 hB5.size hb6
   have qd : ((!dn) == dn) = false := by cases dn <;> rfl
   have qs : (sf.toList == sf.toList) = true := by simp
   clear hP5 hB5 hb6 cB cQ0
   go_wp2_with fail
   go_roundg (m - (k + 1))
   case measure => omega
   case rel => exact ⟨k + 1, by omega, rfl, by go_num, by rw [hK'.out]; exact hP6, hB6⟩
  ·obtain rfl : k = m := by omega
   by_cases h5 : k < l.length
   ·have hd4 : decide ((k : Int) < l.length) = true := decide_eq_true (by omega)
    have hd8 : decide ((k : Int) < 80) = false := decide_eq_false (by omega)
    replace hm := Lib.hid hm
    go_wp2_with fail
    go_ret
    exact ⟨rfl, hB⟩
   ·have hd4 : decide ((k : Int) < l.length) = false := decide_eq_false (by omega)
    replace hm := Lib.hid hm
    go_wp2_with fail
    go_ret
    exact ⟨rfl, hB⟩
end Go.Proofs.Ytggfdkkhlokmlab


