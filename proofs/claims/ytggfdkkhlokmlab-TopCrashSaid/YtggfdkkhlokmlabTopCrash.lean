/- TopCrash: the walks. -/
import Derived.Deep.DeepCutAuto
import Derived.Test.YtggfdkkhlokmlabCrashAt
set_option linter.unusedSimpArgs false
namespace Go.Proofs.Ytggfdkkhlokmlab
open Go.RowKit
attribute [local go_sem] hc_pays hc_next hc_size rc_0 rc_1 rc_2 rc_size dc_0 dc_1 dc_2 dc_3 dc_4 dc_size
/-- What is done lies in block db, what is on its way in block lb; the rows lie in blocks that are none of the bank's. -/
def CrashJ (base db lb : Nat) (l : List Deed) (i : Nat) (av : Nat → Prop) (w : World) : Prop :=
 av db ∧ av lb ∧ db ≠ lb ∧ ∃ v u, w.heap[db]? = some (.cells #[v] 35 (0, 0)) ∧ w.heap[lb]? = some (.cells #[u] 35 (0, 0)) ∧ OwnActs w base v (Gs l i).1 ∧ OwnActs w base u (Gs l i).2 ∧ (∀ b, v.ownBlock = some b → av b) ∧ (∀ b, u.ownBlock = some b → av b)
set_option maxRecDepth 100000 in
set_option maxHeartbeats 8000000 in
theorem topCrash_look (p db lb base : Nat) (av : Nat → Prop) (B K : Bk) (rp : Rp) (g : List Deed × List Deed) (d : Deed) (al : Option Addr) (cl n : Nat) (w : World) (v u : Value) (hk : BankAt w p av K) (hX : doL B d = (K, rp)) (hw : Works B g) (ha : B.acts < 200) (h80 : g.1.length + g.2.length + 1 ≤ 80)
  (hpa : ¬ av p) (hav1 : av db) (hav2 : av lb) (hav3 : ∀ x, v.ownBlock = some x → av x) (hne : db ≠ lb) (hbs : base ≤ w.heap.size) (hdb : w.heap[db]? = some (.cells #[v] 35 (0, 0))) (hlb : w.heap[lb]? = some (.cells #[u] 35 (0, 0))) (ho : OwnActs w base v g.1) (hu : OwnActs w base u g.2) :
  Calls Try.prog 39 #[.pointer (some ⟨p, 0, none⟩), .agg (dc d), .agg (rc rp.code rp.n (.slice al n cl)), .pointer (some ⟨db, 0, none⟩), .pointer (some ⟨lb, 0, none⟩)] w (CrashPost base db lb v u (stepLog B g d) w) := by
 have hhs : replayL (stepLog B g d).1 = (K.h, K.l) := by have := (hw.step d).house; rw [hX] at this; exact this
 have hcb := fun h1 h2 => crash_back (a := d) hw h1 h2
 have hup := fun h1 h2 => do_up B d h1 h2 ha
 have eS : stepLog B g d = if d.kind = 11 ∧ rp.code = 0 then (if rp.n = (g.1.length : Int) then g.1 else g.1 ++ g.2, []) else if d.kind = 10 ∨ d.kind = 11 then g else if rp.code = 7 ∧ g.2 = [] then (g.1, [d]) else if rp.code = 0 then (g.1 ++ [d], []) else g := by unfold stepLog; rw [hX]
 rw [hX] at hcb hup
 have cH := fun w h => bankHouse_any p av K w h
 have cP := fun a cap w h => replay_any (stepLog B g d).1 a cap w h
 rw [hhs] at cP
 obtain ⟨S, hS⟩ : ∃ S, (K.h, K.l) = S := ⟨_, rfl⟩
 have e1 : K.h = S.1 := by rw [← hS]
 have e2 : K.l = S.2 := by rw [← hS]
 rw [hS] at cP
 rw [e1, e2] at cH
 have cB := fun w h => bankBook_any p av K w h
 generalize K.text = tx at cB
 clear hS e1 e2 hhs hX hw
 have hfar : ∀ x, v.ownBlock = some x → x < w.heap.size := fun x hx => ho.lt hx
 have hl1 := hlt hdb
 have hl2 := hlt hlb
 obtain ⟨a1, cap1, rfl, hr1, _⟩ := ho.at_
 obtain ⟨a2, cap2, rfl, hr2, _⟩ := hu.at_
 have hm1 : g.1.length ≤ 9223372036854775807 := by omega
 have hm2 : g.2.length ≤ 9223372036854775807 := by omega
 have hfar2 : ¬ (w.heap.size + 1 = db ∨ w.heap.size + 1 = lb ∨ (Value.slice a1 g.1.length cap1).ownBlock = some (w.heap.size + 1)) := by
  rintro (e | e | e)
  ·omega
  ·omega
  ·have := hfar _ e; omega
 replace hcb := Lib.hid hcb
 replace hup := Lib.hid hup
 replace eS := Lib.hid eS
 replace cH := Lib.hid cH
 replace cP := Lib.hid cP
 replace cB := Lib.hid cB
 replace hav3 := Lib.hid hav3
 replace hfar2 := Lib.hid hfar2
 replace hr1 := Lib.hid hr1
 replace hr2 := Lib.hid hr2
 clear hfar
 go_enter Try.func39, Try.ntmps39
 go_upto_region 1 with fail
 generalize hW : World.alloc (World.alloc w _) _ = W0
 have hA : W0.heap[w.heap.size]? = some (.cells (dc d) 40 (0, 0)) := by rw [← hW]; exact heap_alloc2_old w _ _
 have hR : W0.heap[w.heap.size + 1]? = some (.cells (rc rp.code rp.n (.slice al n cl)) 44 (0, 0)) := by rw [← hW]; exact heap_alloc2_new w _ _
 have hB0 : Below w.heap.size w W0 := by rw [← hW]; exact ((Below.refl w.heap.size w).alloc (Nat.le_refl _) _).alloc (by simp) _
 clear hW
 have hk0 := hk.below hB0
 go_upto_region 2 with (first | go_skip | (go_at_call 24; refine (cB.out _ hk0).mono ?_; rintro e w1 ⟨rfl, hb1⟩))
 have hB1 := bstep hB0 hB0.size hb1
 have hA1 := hkeep hb1 hA
 have hR1 := hkeep hb1 hR
 have hk1 := Lib.hid (hk0.below hb1)
 have hM : CrashMid base db lb (.slice a1 g.1.length cap1) (.slice a2 g.2.length cap2) (.slice a1 g.1.length cap1) (.slice a2 g.2.length cap2) g w1 w1 := ⟨Only.refl _ _, hne, Nat.lt_of_lt_of_le hl1 hB1.size, Nat.lt_of_lt_of_le hl2 hB1.size, Nat.le_trans hbs hB1.size, hkeep hB1 hdb, hkeep hB1 hlb, ho.below hB1, hu.below hB1, fun _ h => .inl h, fun _ h => .inl h⟩
 clear hb1 hB0 hA hR hk0 hdb hlb ho hu hk
 have cA := cells_at hA1
 have cR := cells_at hR1
 have cD := cells_at hM.box1
 have cL := cells_at hM.box2
 have fD := frozenAt hM.box1
 have fL := frozenAt hM.box2
 by_cases h11 : d.kind = 11 ∧ rp.code = 0
 ·obtain ⟨h11, h0⟩ := h11
  have q11 : (d.kind == 11) = true := by rw [beq_iff_eq]; exact h11
  have q0 : (rp.code == 0) = true := by rw [beq_iff_eq]; exact h0
  obtain ⟨hnn, hdn⟩ := hcb.out h11 h0
  replace eS := eS.out
  rw [if_pos ⟨h11, h0⟩] at eS
  rw [eS] at hnn cP
  simp only at hnn cP
  replace h11 := Lib.hid h11
  replace h0 := Lib.hid h0
  by_cases hn : rp.n = (g.1.length : Int)
  ·have qn : (rp.n == (g.1.length : Int)) = true := by rw [beq_iff_eq]; exact hn
   have qn' : (rp.n != (g.1.length : Int)) = false := by rw [bne, qn]; rfl
   rw [if_pos hn] at eS hnn cP
   replace eS := Lib.hid eS
   replace cP := Lib.hid cP
   replace hn := Lib.hid hn
   clear hnn
   go_upto_region 6 with fail
   have hM2 := hM.lost (.slice none 0 0) [] (OwnActs.nil _ _) (fun b e => by simp [Value.ownBlock] at e)
   generalize World.setCell w1 _ _ = W at *
   clear cA cR cD cL fD fL hM
   have hp3 : ActsAt W a1 cap1 g.1 := by obtain ⟨_, _, e3, h, _⟩ := hM2.own1.at_; cases e3; exact h
   have hR6 : W.heap[w.heap.size + 1]? = some (.cells (rc rp.code rp.n (.slice al n cl)) 44 (0, 0)) := (hM2.only.block _ (hlt hR1) hfar2.out).trans hR1
   have hk6 := hM2.bank hk1.out hav1 hav2 hav3.out hpa
   have hI0 : Below W.heap.size W W.drew := (Below.refl _ _).drew
   have hcR : ∀ w', Below W.heap.size W w' → w'.cell? ⟨w.heap.size + 1, 1, none⟩ = some (.int .i64 rp.n) := fun w' hb => cells_at (hkeep hb hR6) 1
   have hcD : ∀ w', Below W.heap.size W w' → w'.cell? ⟨db, 0, none⟩ = some (.slice a1 g.1.length cap1) := fun w' hb => cells_at (hkeep hb hM2.box1) 0
   have hkd := hk6.below hI0
   have hpd := hp3.below hI0
   replace hkd := Lib.hid hkd
   replace hpd := Lib.hid hpd
   replace hcR := Lib.hid hcR
   replace hcD := Lib.hid hcD
   clear hk6 hR6 hp3
   refine wpG_start (Below W.heap.size W) 10 (by kernel_rfl) ?_
   generalize World.drew W = wd at *
   refine wpG_putT 33 (i := 0) (oi := _) (v := (.pointer (some ⟨w.heap.size + 1, 1, none⟩))) rfl rfl (by kernel_rfl) (by kernel_rfl) (by kernel_rfl) (by kernel_rfl) (fun _ _ _ h => h) hI0 ?hy1 ?rs1
   case hy1 => exact Or.inl ⟨by rfl, by intro w' hb; go_simp⟩
   (try simp only [Act.put, List.setIfInBounds_toArray, List.set_cons_succ, List.set_cons_zero])
   refine wpG_put 34 (i := 1) (oi := _) (v := (.int .i64 rp.n)) [7, 5, 4, 1] rfl rfl (by kernel_rfl) (by kernel_rfl) (by kernel_rfl) (by kernel_rfl) (fun _ _ _ h => h) hI0 ?hy2 ?rs2
   case hy2 => exact Or.inl ⟨by rfl, by intro w' hb; have c1 := hcR.out w' hb; go_simp⟩
   (try simp only [Act.put, List.setIfInBounds_toArray, List.set_cons_succ, List.set_cons_zero])
   refine wpG_put 35 (i := 2) (oi := _) (v := (.slice a1 g.1.length cap1)) [7, 5, 4, 3, 2] rfl rfl (by kernel_rfl) (by kernel_rfl) (by kernel_rfl) (by kernel_rfl) (fun _ _ _ h => h) hI0 ?hy3 ?rs3
   case hy3 => exact Or.inl ⟨by rfl, by intro w' hb; have c1 := hcD.out w' hb; go_simp⟩
   (try simp only [Act.put, List.setIfInBounds_toArray, List.set_cons_succ, List.set_cons_zero])
   refine wpG_putT 36 (i := 3) (oi := _) (v := (.int .i64 (g.1.length : Int))) rfl rfl (by kernel_rfl) (by kernel_rfl) (by kernel_rfl) (by kernel_rfl) (fun _ _ _ h => h) hI0 ?hy4 ?rs4
   case hy4 => exact Or.inl ⟨by rfl, by intro w' hb; go_simp⟩
   (try simp only [Act.put, List.setIfInBounds_toArray, List.set_cons_succ, List.set_cons_zero])
   refine wpG_putT 37 (i := 4) (oi := _) (v := (.bool true)) rfl rfl (by kernel_rfl) (by kernel_rfl) (by kernel_rfl) (by kernel_rfl) (fun _ _ _ h => h) hI0 ?hy5 ?rs5
   case hy5 => exact Or.inl ⟨by rfl, by intro w' hb; go_simp⟩
   (try simp only [Act.put, List.setIfInBounds_toArray, List.set_cons_succ, List.set_cons_zero])
   refine wpG_putT 38 (i := 5) (oi := _) (v := (.bool true)) rfl rfl (by kernel_rfl) (by kernel_rfl) (by kernel_rfl) (by kernel_rfl) (fun _ _ _ h => h) hI0 ?hy6 ?rs6
   case hy6 => exact Or.inl ⟨by rfl, by intro w' hb; go_simp⟩
   (try simp only [Act.put, List.setIfInBounds_toArray, List.set_cons_succ, List.set_cons_zero])
   refine wpG_putT 39 (i := 6) (oi := _) (v := (.pointer (some ⟨p, 0, none⟩))) rfl rfl (by kernel_rfl) (by kernel_rfl) (by kernel_rfl) (by kernel_rfl) (fun _ _ _ h => h) hI0 ?hy7 ?rs7
   case hy7 => exact Or.inl ⟨by rfl, by intro w' hb; go_simp⟩
   (try simp only [Act.put, List.setIfInBounds_toArray, List.set_cons_succ, List.set_cons_zero])
   refine wpG_put 41 (i := 8) (oi := _) (v := (.slice a1 g.1.length cap1)) [9, 8] rfl rfl (by kernel_rfl) (by kernel_rfl) (by kernel_rfl) (by kernel_rfl) (fun _ _ _ h => h) hI0 ?hy8 ?rs8
   case hy8 => exact Or.inl ⟨by rfl, by intro w' hb; have c1 := hcD.out w' hb; go_simp⟩
   (try simp only [Act.put, List.setIfInBounds_toArray, List.set_cons_succ, List.set_cons_zero])
   refine wpG_one (i := 7) (by kernel_rfl) rfl ?_
   go_wp2_with (first | go_skip | (go_at_call 21; refine (cH.out _ hkd.out).mono ?_; rintro e w7 ⟨⟨u7, rfl, hu7⟩, hb7⟩; obtain ⟨a7, cap7, rfl, hp7, _⟩ := hu7.at_))
   have hI7 := hI0.trans (hb7.mono hI0.size)
   have hpd7 := Lib.hid (hpd.out.below hb7)
   clear hu7
   refine ⟨hI7, ?_⟩
   (try simp only [Act.put, List.setIfInBounds_toArray, List.set_cons_succ, List.set_cons_zero])
   refine wpG_one (i := 9) (by kernel_rfl) rfl ?_
   go_wp2_with (first | go_skip | (go_at_call 31; refine (cP.out a1 cap1 _ hpd7.out).mono ?_; rintro e w8 ⟨⟨a8, cap8, rfl, hp8, _⟩, hb8⟩))
   have hI8 := hI7.trans (hb8.mono hI7.size)
   have hp78 := hp7.below hb8
   refine ⟨hI8, ?_⟩
   (try simp only [Act.put, List.setIfInBounds_toArray, List.set_cons_succ, List.set_cons_zero])
   refine wpG_drop 10 rfl (by kernel_rfl) ?_
   simp only [List.drop_succ_cons, List.drop_zero]
   clear hp7
   go_wp2_with (first | go_skip | (go_at_call 40; refine (topSameHouse_eq S.1 S.2 a7 a8 cap7 cap8 _ hp78 hp8).mono ?_; rintro e w9 ⟨rfl, hb9⟩))
   go_ret
   have hI9 := hI8.trans (hb9.mono hI8.size)
   rw [eS.out]
   exact (hM2.below hI9).post hB1
  ·have qn : (rp.n == (g.1.length : Int)) = false := by rw [beq_eq_false_iff_ne]; exact hn
   have qn' : (rp.n != (g.1.length : Int)) = true := by rw [bne, qn]; rfl
   rw [if_neg hn] at eS hnn cP
   have hg2 : 0 < g.2.length := by
    rcases Nat.eq_zero_or_pos g.2.length with h | h
    ·rw [List.length_append, h] at hnn; exact absurd hnn hn
    ·exact h
   obtain ⟨b2, o2, rfl, _, _⟩ := hr2.out.row hg2
   have hr21 := Lib.hid (hr2.out.below hB1)
   obtain ⟨m, hm⟩ : ∃ m, g.1.length + g.2.length = m := ⟨_, rfl⟩
   have hmX : (g.1 ++ g.2).length = m := by rw [List.length_append]; exact hm
   have hm3 : m ≤ 9223372036854775807 := by omega
   rw [hmX] at hnn cP
   have qm : (rp.n == (m : Int)) = true := by rw [beq_iff_eq]; exact hnn
   replace hm := Lib.hid hm
   replace qm := Lib.hid qm
   replace hmX := Lib.hid hmX
   replace eS := Lib.hid eS
   replace cP := Lib.hid cP
   replace hn := Lib.hid hn
   replace hnn := Lib.hid hnn
   replace hg2 := Lib.hid hg2
   go_upto_region 5 with (first | go_skip | (at_builtin; refine wpList_append_own rfl _ _ rfl base (.slice a1 g.1.length cap1) g.1 g.2 rfl hM.own1 ⟨b2, o2, none⟩ cap2 rfl hr21.out hg2.out (by omega) hM.low ?_; intro v2 w2 hown2 hgr2 hf2; obtain ⟨a4, c4, rfl⟩ := owns_slice hown2 hm.out; obtain ⟨hlb2, hdb2, hlb3, hM2⟩ := hM.app hown2 rfl (by omega) hgr2 hf2; have fD2 := frozenAt hdb2; have cD2 := cells_at hdb2))
   have fL3 := frozenAt hlb3
   have cL3 := cells_at hlb3
   clear hown2 hgr2 hf2
   go_upto_region 6 with fail
   generalize hW : World.setCell (World.setCell w2 _ _) _ _ = W
   replace hM2 : CrashMid base db lb (.slice a1 g.1.length cap1) (.slice (some ⟨b2, o2, none⟩) g.2.length cap2) (.slice a4 m c4) (.slice none 0 0) (g.1 ++ g.2, []) w1 W := by rw [← hW]; exact hM2
   clear hW cA cR cD cL fD fL fD2 cD2 fL3 cL3 hM hlb2 hdb2 hlb3
   have hp3 : ActsAt W a4 c4 (g.1 ++ g.2) := by
    obtain ⟨_, _, e3, h, _⟩ := hM2.own1.at_
    injection e3 with e4 e5 e6
    subst e4
    subst e6
    exact h
   have qm := qm.out
   clear qn qn' hmX hm
   generalize g.1 ++ g.2 = X at *
   have hR6 : W.heap[w.heap.size + 1]? = some (.cells (rc rp.code rp.n (.slice al n cl)) 44 (0, 0)) := (hM2.only.block _ (hlt hR1) hfar2.out).trans hR1
   have hk6 := hM2.bank hk1.out hav1 hav2 hav3.out hpa
   have hI0 : Below W.heap.size W W.drew := (Below.refl _ _).drew
   have hcR : ∀ w', Below W.heap.size W w' → w'.cell? ⟨w.heap.size + 1, 1, none⟩ = some (.int .i64 rp.n) := fun w' hb => cells_at (hkeep hb hR6) 1
   have hcD : ∀ w', Below W.heap.size W w' → w'.cell? ⟨db, 0, none⟩ = some (.slice a4 m c4) := fun w' hb => cells_at (hkeep hb hM2.box1) 0
   have hkd := hk6.below hI0
   have hpd := hp3.below hI0
   replace hkd := Lib.hid hkd
   replace hpd := Lib.hid hpd
   replace hcR := Lib.hid hcR
   replace hcD := Lib.hid hcD
   clear hk6 hR6 hp3
   refine wpG_start (Below W.heap.size W) 10 (by kernel_rfl) ?_
   generalize World.drew W = wd at *
   refine wpG_putT 33 (i := 0) (oi := _) (v := (.pointer (some ⟨w.heap.size + 1, 1, none⟩))) rfl rfl (by kernel_rfl) (by kernel_rfl) (by kernel_rfl) (by kernel_rfl) (fun _ _ _ h => h) hI0 ?hy9 ?rs9
   case hy9 => exact Or.inl ⟨by rfl, by intro w' hb; go_simp⟩
   (try simp only [Act.put, List.setIfInBounds_toArray, List.set_cons_succ, List.set_cons_zero])
   refine wpG_put 34 (i := 1) (oi := _) (v := (.int .i64 rp.n)) [7, 5, 4, 1] rfl rfl (by kernel_rfl) (by kernel_rfl) (by kernel_rfl) (by kernel_rfl) (fun _ _ _ h => h) hI0 ?hy10 ?rs10
   case hy10 => exact Or.inl ⟨by rfl, by intro w' hb; have c1 := hcR.out w' hb; go_simp⟩
   (try simp only [Act.put, List.setIfInBounds_toArray, List.set_cons_succ, List.set_cons_zero])
   refine wpG_put 35 (i := 2) (oi := _) (v := (.slice a4 m c4)) [7, 5, 4, 3, 2] rfl rfl (by kernel_rfl) (by kernel_rfl) (by kernel_rfl) (by kernel_rfl) (fun _ _ _ h => h) hI0 ?hy11 ?rs11
   case hy11 => exact Or.inl ⟨by rfl, by intro w' hb; have c1 := hcD.out w' hb; go_simp⟩
   (try simp only [Act.put, List.setIfInBounds_toArray, List.set_cons_succ, List.set_cons_zero])
   refine wpG_putT 36 (i := 3) (oi := _) (v := (.int .i64 (m : Int))) rfl rfl (by kernel_rfl) (by kernel_rfl) (by kernel_rfl) (by kernel_rfl) (fun _ _ _ h => h) hI0 ?hy12 ?rs12
   case hy12 => exact Or.inl ⟨by rfl, by intro w' hb; go_simp⟩
   (try simp only [Act.put, List.setIfInBounds_toArray, List.set_cons_succ, List.set_cons_zero])
   refine wpG_putT 37 (i := 4) (oi := _) (v := (.bool true)) rfl rfl (by kernel_rfl) (by kernel_rfl) (by kernel_rfl) (by kernel_rfl) (fun _ _ _ h => h) hI0 ?hy13 ?rs13
   case hy13 => exact Or.inl ⟨by rfl, by intro w' hb; go_simp⟩
   (try simp only [Act.put, List.setIfInBounds_toArray, List.set_cons_succ, List.set_cons_zero])
   refine wpG_putT 38 (i := 5) (oi := _) (v := (.bool true)) rfl rfl (by kernel_rfl) (by kernel_rfl) (by kernel_rfl) (by kernel_rfl) (fun _ _ _ h => h) hI0 ?hy14 ?rs14
   case hy14 => exact Or.inl ⟨by rfl, by intro w' hb; go_simp⟩
   (try simp only [Act.put, List.setIfInBounds_toArray, List.set_cons_succ, List.set_cons_zero])
   refine wpG_putT 39 (i := 6) (oi := _) (v := (.pointer (some ⟨p, 0, none⟩))) rfl rfl (by kernel_rfl) (by kernel_rfl) (by kernel_rfl) (by kernel_rfl) (fun _ _ _ h => h) hI0 ?hy15 ?rs15
   case hy15 => exact Or.inl ⟨by rfl, by intro w' hb; go_simp⟩
   (try simp only [Act.put, List.setIfInBounds_toArray, List.set_cons_succ, List.set_cons_zero])
   refine wpG_put 41 (i := 8) (oi := _) (v := (.slice a4 m c4)) [9, 8] rfl rfl (by kernel_rfl) (by kernel_rfl) (by kernel_rfl) (by kernel_rfl) (fun _ _ _ h => h) hI0 ?hy16 ?rs16
   case hy16 => exact Or.inl ⟨by rfl, by intro w' hb; have c1 := hcD.out w' hb; go_simp⟩
   (try simp only [Act.put, List.setIfInBounds_toArray, List.set_cons_succ, List.set_cons_zero])
   refine wpG_one (i := 7) (by kernel_rfl) rfl ?_
   go_wp2_with (first | go_skip | (go_at_call 21; refine (cH.out _ hkd.out).mono ?_; rintro e w7 ⟨⟨u7, rfl, hu7⟩, hb7⟩; obtain ⟨a7, cap7, rfl, hp7, _⟩ := hu7.at_))
   have hI7 := hI0.trans (hb7.mono hI0.size)
   have hpd7 := Lib.hid (hpd.out.below hb7)
   clear hu7
   refine ⟨hI7, ?_⟩
   (try simp only [Act.put, List.setIfInBounds_toArray, List.set_cons_succ, List.set_cons_zero])
   refine wpG_one (i := 9) (by kernel_rfl) rfl ?_
   go_wp2_with (first | go_skip | (go_at_call 31; refine (cP.out a4 c4 _ hpd7.out).mono ?_; rintro e w8 ⟨⟨a8, cap8, rfl, hp8, _⟩, hb8⟩))
   have hI8 := hI7.trans (hb8.mono hI7.size)
   have hp78 := hp7.below hb8
   refine ⟨hI8, ?_⟩
   (try simp only [Act.put, List.setIfInBounds_toArray, List.set_cons_succ, List.set_cons_zero])
   refine wpG_drop 10 rfl (by kernel_rfl) ?_
   simp only [List.drop_succ_cons, List.drop_zero]
   clear hp7
   go_wp2_with (first | go_skip | (go_at_call 40; refine (topSameHouse_eq S.1 S.2 a7 a8 cap7 cap8 _ hp78 hp8).mono ?_; rintro e w9 ⟨rfl, hb9⟩))
   go_ret
   have hI9 := hI8.trans (hb9.mono hI8.size)
   rw [eS.out]
   exact (hM2.below hI9).post hB1
 replace eS := eS.out
 rw [if_neg h11] at eS
 have q11 : d.kind = 11 → (rp.code == 0) = false := fun h => by rw [beq_eq_false_iff_ne]; exact fun e => h11 ⟨h, e⟩
 clear cP hcb
 by_cases hk2 : d.kind = 10 ∨ d.kind = 11
 ·rw [if_pos hk2] at eS
  replace eS := Lib.hid eS
  by_cases hk3 : d.kind = 11
  ·have q1 : (d.kind == 11) = true := by rw [beq_iff_eq]; exact hk3
   have q2 := q11 hk3
   have q3 : (d.kind == 10) = false := by rw [beq_eq_false_iff_ne]; omega
   clear q11 h11 hk2
   replace hk3 := Lib.hid hk3
   go_wp2_with fail
   go_ret
   rw [eS.out]
   exact hM.post hB1
  ·have q1 : (d.kind == 11) = false := by rw [beq_eq_false_iff_ne]; omega
   have q3 : (d.kind == 10) = true := by rw [beq_iff_eq]; omega
   clear q11 h11 hk2
   replace hk3 := Lib.hid hk3
   go_wp2_with fail
   go_ret
   rw [eS.out]
   exact hM.post hB1
 rw [if_neg hk2] at eS
 have q1 : (d.kind == 11) = false := by rw [beq_eq_false_iff_ne]; omega
 have q3 : (d.kind == 10) = false := by rw [beq_eq_false_iff_ne]; omega
 have hdn := hup.out (by omega) (by omega)
 clear q11 h11 hk2 hup
 by_cases h7 : rp.code = 7
 ·have q7 : (rp.code == 7) = true := by rw [beq_iff_eq]; exact h7
  have q7' : (rp.code != 7) = false := by rw [bne, q7]; rfl
  have q0 : (rp.code == 0) = false := by rw [beq_eq_false_iff_ne]; omega
  rw [decide_eq_true h7] at hdn
  by_cases h2 : g.2 = []
  ·rw [if_pos ⟨h7, h2⟩] at eS
   have hl0 : g.2.length = 0 := by rw [h2]; rfl
   have ql : ((g.2.length : Int) == 0) = true := by rw [beq_iff_eq]; omega
   have fC : ∀ (C : Obj) (o : Nat), (w1.alloc C).frozen? ⟨lb, o, none⟩ = false := fun C => frozenAt (hold hM.box2 C)
   have cC : ∀ C : Obj, (w1.alloc C).cell? ⟨lb, 0, none⟩ = some (.slice a2 g.2.length cap2) := fun C => cells_at (hold hM.box2 C) 0
   have hMl : ∀ C, C = dc d → CrashMid base db lb (.slice a1 g.1.length cap1) (.slice a2 g.2.length cap2) (.slice a1 g.1.length cap1) (.slice (some ⟨w1.heap.size, 0, none⟩) 1 1) (g.1, [d]) w1 ((w1.alloc (.cells C 40)).setCell ⟨lb, 0, none⟩ (.slice (some ⟨w1.heap.size, 0, none⟩) 1 1)) := fun C h => by
    subst h
    exact (hM.below ((Below.refl _ _).alloc (Nat.le_refl _) _)).lost _ [d] (OwnActs.one_ (hnew w1 _) hM.low) fun b e => by simp only [Value.ownBlock, Option.some.injEq] at e; exact .inr (by omega)
   replace hMl := Lib.hid hMl
   replace eS := Lib.hid eS
   replace h7 := Lib.hid h7
   replace h2 := Lib.hid h2
   replace hl0 := Lib.hid hl0
   go_upto_region 13 with fail
   generalize hW : World.setCell (World.alloc w1 _) _ _ = W
   have hM2 : CrashMid base db lb (.slice a1 g.1.length cap1) (.slice a2 g.2.length cap2) (.slice a1 g.1.length cap1) (.slice (some ⟨w1.heap.size, 0, none⟩) 1 1) (g.1, [d]) w1 W := by rw [← hW]; exact hMl.out _ (by rfl)
   clear hW hMl cA cR cD cL fD fL fC cC hM
   have hR6 := (hM2.only.block _ (hlt hR1) hfar2.out).trans hR1
   have cR6 := cells_at hR6
   go_wp2_with fail
   go_ret
   rw [eS.out]
   exact hM2.post hB1
  ·rw [if_neg (fun h => h2 h.2), if_neg (by omega)] at eS
   have hl0 : ¬ g.2.length = 0 := fun h => h2 (List.length_eq_zero_iff.1 h)
   have ql : ((g.2.length : Int) == 0) = false := by rw [beq_eq_false_iff_ne]; omega
   replace eS := Lib.hid eS
   replace h7 := Lib.hid h7
   replace h2 := Lib.hid h2
   go_wp2_with fail
   go_ret
   rw [eS.out]
   exact hM.post hB1
 ·have q7 : (rp.code == 7) = false := by rw [beq_eq_false_iff_ne]; exact h7
  have q7' : (rp.code != 7) = true := by rw [bne, q7]; rfl
  rw [decide_eq_false h7] at hdn
  rw [if_neg (fun h => h7 h.1)] at eS
  replace h7 := Lib.hid h7
  by_cases h0 : rp.code = 0
  ·have q0 : (rp.code == 0) = true := by rw [beq_iff_eq]; exact h0
   rw [if_pos h0] at eS
   obtain ⟨m, hm⟩ : ∃ m, g.1.length + [d].length = m := ⟨_, rfl⟩
   replace hm := Lib.hid hm
   have hMC : Hid (∀ C, CrashMid base db lb (.slice a1 g.1.length cap1) (.slice a2 g.2.length cap2) (.slice a1 g.1.length cap1) (.slice a2 g.2.length cap2) g w1 (w1.alloc C)) := Lib.hid (fun C => hM.below ((Below.refl _ _).alloc (Nat.le_refl _) C))
   replace eS := Lib.hid eS
   replace h0 := Lib.hid h0
   go_upto_region 13 with (first | go_skip | (at_builtin; refine wpList_append_own rfl _ _ rfl base (.slice a1 g.1.length cap1) g.1 [d] rfl (hMC.out _).own1 ⟨w1.heap.size, 0, none⟩ 1 rfl (acts_one' w1 d (by rfl)) (by simp) (by simp; omega) (by have := hM.low; rw [alloc_size]; omega) ?_; intro v2 w2 hown2 hgr2 hf2; obtain ⟨a4, c4, rfl⟩ := owns_slice hown2 hm.out; obtain ⟨hlb2, hdb2, hlb3, hM2⟩ := (hMC.out _).app hown2 rfl (by simp; omega) hgr2 hf2; have fD2 := frozenAt hdb2; have cD2 := cells_at hdb2; have fL3 := frozenAt hlb3; have cL3 := cells_at hlb3; clear hown2 hgr2 hf2))
   generalize hW : World.setCell (World.setCell w2 _ _) _ _ = W
   replace hM2 : CrashMid base db lb (.slice a1 g.1.length cap1) (.slice a2 g.2.length cap2) (.slice a4 m c4) (.slice none 0 0) (g.1 ++ [d], []) w1 W := by rw [← hW]; exact hM2
   clear hW cA cR cD cL fD fL fD2 cD2 fL3 cL3 hM hlb2 hdb2 hlb3
   have hR6 := (hM2.only.block _ (hlt hR1) hfar2.out).trans hR1
   have cR6 := cells_at hR6
   go_wp2_with fail
   go_ret
   rw [eS.out]
   exact hM2.post hB1
  ·have q0 : (rp.code == 0) = false := by rw [beq_eq_false_iff_ne]; exact h0
   rw [if_neg h0] at eS
   replace eS := Lib.hid eS
   replace h0 := Lib.hid h0
   go_wp2_with fail
   go_ret
   rw [eS.out]
   exact hM.post hB1
theorem topCrash_looks (base db lb : Nat) (l : List Deed) : Looks 39 #[.pointer (some ⟨db, 0, none⟩), .pointer (some ⟨lb, 0, none⟩)] base (CrashJ base db lb l) l where
 enter := fun args w => by kernel_rfl
 keep := fun i av av' w w' hJ hb ha hs => by
  obtain ⟨h1, h2, hne, v, u, h3, h4, h5, h6, h7, h8⟩ := hJ
  exact ⟨ha _ h1, ha _ h2, hne, v, u, (hb db (.inr h1)).trans h3, (hb lb (.inr h2)).trans h4, h5.stay fun x hx => hb x (.inr (h7 x hx)), h6.stay fun x hx => hb x (.inr (h8 x hx)), fun b h => ha _ (h7 b h), fun b h => ha _ (h8 b h)⟩
 look := fun i d p av v w1 hi8 hpk hJ hk _ hpa hav ho _ => by
  obtain ⟨h1, h2, hne, s, u, h3, h4, h5, h6, h7, h8⟩ := hJ
  obtain ⟨al, cl, rfl, _⟩ := ho.at_
  have hil : i ≤ l.length := Nat.le_of_lt (List.getElem?_eq_some_iff.1 hpk).1
  have hg := gs_len hil
  refine (topCrash_look p db lb base av (Bs l i) (Bs l (i + 1)) (Rs l i d) (Gs l i) d al cl _ w1 s u hk (do_pair hpk) (bs_works l i) (by rw [bs_acts hil (by omega)]; omega) (by omega) hpa h1 h2 h7 hne (Nat.le_trans (hav _ h1).1 (Nat.le_of_lt (hav _ h1).2)) h3 h4 h5 h6).mono fun e w2 hP => ?_
  obtain ⟨e1, e2, s', u', e3, e4, e5, e6, e7, e8⟩ := hP
  exact ⟨e1, e2.mono fun b _ e => e.elim (fun e => e ▸ h1) fun e => e.elim (fun e => e ▸ h2) fun e => h7 b e, .inl h1, .inl h2, hne, s', u', e3, e4, by rw [gs_succ hpk]; exact e5, by rw [gs_succ hpk]; exact e6, fun b h => (e7 b h).imp (h7 b) fun h' => ⟨h', e5.lt h⟩, fun b h => (e8 b h).imp (h8 b) fun h' => ⟨h', e6.lt h⟩⟩
set_option maxRecDepth 100000 in
theorem topCrash_any (l : List Deed) (a : Option Addr) (cap : Nat) (w : World) (hl : ActsAt w a cap l) :
  Calls Try.prog 11 #[.slice a l.length cap] w fun e w' => e = .returned (.bool true) ∧ Below w.heap.size w w' := by
 have hlb := lt_of_acts hl
 replace hl := Lib.hid hl
 go_enter Try.func11, Try.ntmps11
 go_upto_region 3 with fail
 generalize hW : World.alloc (World.alloc w _) _ = W0
 have hD : W0.heap[w.heap.size]? = some (.cells #[.slice none 0 0] 35 (0, 0)) := by rw [← hW]; exact heap_alloc2_old w _ _
 have hE : W0.heap[w.heap.size + 1]? = some (.cells #[.slice none 0 0] 35 (0, 0)) := by rw [← hW]; exact heap_alloc2_new w _ _
 have hB0 : Below w.heap.size w W0 := by rw [← hW]; exact ((Below.refl w.heap.size w).alloc (Nat.le_refl _) _).alloc (by simp) _
 have cP := play_any 39 #[.pointer (some ⟨w.heap.size, 0, none⟩), .pointer (some ⟨w.heap.size + 1, 0, none⟩)] w.heap.size (CrashJ w.heap.size w.heap.size (w.heap.size + 1) l) l a cap W0 (hl.out.below hB0) hlb hB0.size (topCrash_looks _ _ _ l) ⟨⟨Nat.le_refl _, hlt hD⟩, ⟨Nat.le_succ _, hlt hE⟩, by omega, _, _, hD, hE, OwnActs.nil _ _, OwnActs.nil _ _, fun b e => by simp [Value.ownBlock] at e, fun b e => by simp [Value.ownBlock] at e⟩
 clear hW hlb
 replace cP := Lib.hid cP
 go_wp2_with (first | go_skip | (go_at_call 19; refine cP.out.mono ?_; rintro e w1 ⟨⟨p, av, rfl, _⟩, hb1⟩))
 go_ret
 exact ⟨rfl, hB0.trans hb1⟩
end Go.Proofs.Ytggfdkkhlokmlab


