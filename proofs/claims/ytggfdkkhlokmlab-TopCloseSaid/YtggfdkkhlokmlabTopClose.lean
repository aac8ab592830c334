/- TopClose: the walk. -/
import Derived.Test.YtggfdkkhlokmlabTopQuiet
namespace Go.Proofs.Ytggfdkkhlokmlab
open Go.RowKit
attribute [local go_sem high] eqlA eqlS
attribute [local go_sem] hc_pays hc_next hc_size rc_0 rc_1 rc_2 rc_size pc_4 pc_size
theorem act9_cells : (.agg #[.int .i64 9, .int .i64 0, .int .i64 0, .int .i64 0, .int .i64 0] : Value) = .agg (dc act9) := rfl
set_option maxRecDepth 100000 in
set_option maxHeartbeats 4000000 in
theorem topClose_any (l0 : List Deed) (a0 : Option Addr) (cap0 : Nat) (w : World) (hl : ActsAt w a0 cap0 l0) :
    Calls Try.prog 13 #[.slice a0 l0.length cap0] w fun e w' => e = .returned (.bool true) ∧ Below w.heap.size w w' := by
  have cP := playQ_any w.heap.size l0 a0 cap0 w hl (lt_of_acts hl) (Nat.le_refl _)
  have hw := bs_works l0 (min l0.length 80)
  have hg3 := bs_good l0 (min l0.length 80)
  have hPl := fun w' p av (h : Played w.heap.size l0 w w' p av) => h.bank
  obtain ⟨K, hK⟩ : ∃ K, Bs l0 (min l0.length 80) = K := ⟨_, rfl⟩
  rw [hK] at hPl hw hg3
  have hgb := hg3.inv.goodB hg3.low
  have hcl := fun hc => do_close (B := K) hgb hc
  have hrf := fun hc => do_refused K act9 hc
  have cD := fun p av w hB hav => do_any p av K act9 w hB hav hw.small hw.fail
  have cH := fun p av w hB => bankHouse_any p av K w hB
  have h24 := hg3.inv.len
  obtain ⟨X, hX⟩ : ∃ X, doL K act9 = X := ⟨_, rfl⟩
  rw [hX] at hcl hrf cD
  have cH2 := fun p av w hB => bankHouse_any p av X.1 w hB
  obtain ⟨h, l, t, dn, f, n⟩ := K
  simp only at hcl hrf cH h24
  replace hX := Lib.hid hX
  replace hK := Lib.hid hK
  replace cP := Lib.hid cP
  replace hPl := Lib.hid hPl
  replace hcl := Lib.hid hcl
  replace hrf := Lib.hid hrf
  replace cD := Lib.hid cD
  replace cH := Lib.hid cH
  replace cH2 := Lib.hid cH2
  clear hw hg3
  replace hgb := Lib.hid hgb
  go_enter Try.func13, Try.ntmps13
  go_upto_region 4 with (first | go_skip | (go_at_call 19; refine cP.out.mono ?_; rintro e w1 ⟨p, av, rfl, hp1⟩))
  have hk1 := hPl.out _ _ _ hp1
  have hb1 := hp1.below
  have hpw := hp1.new
  have hav := hp1.lt
  clear hp1
  go_upto_region 5 with (first | go_skip | (go_at_call 21; refine (cH.out p av _ hk1).mono ?_; rintro e w2 ⟨⟨u, rfl, hown⟩, hb2⟩; obtain ⟨a1, cap1, rfl, hp1, hpb1⟩ := hown.at_) | (refine st_new 29 _ _ rfl _ 29 _ rfl rfl rfl (hc h (.slice a1 l.length cap1)) rfl info30 rfl (hc_one _ _ rfl) ?_))
  have hH3 := hnew w2 (.cells (hc h (.slice a1 l.length cap1)) 29)
  have hp3 := hp1.alloc (.cells (hc h (.slice a1 l.length cap1)) 29)
  have hk3 := (hk1.below hb2).below ((Below.refl _ _).alloc (Nat.le_refl _) (.cells (hc h (.slice a1 l.length cap1)) 29))
  have hB3 := (bstep hb1 hb1.size hb2).alloc (bstep hb1 hb1.size hb2).size (.cells (hc h (.slice a1 l.length cap1)) 29)
  have hs2 := hb2.size
  have hs1 := hb1.size
  have hpl := hk1.lt
  generalize hW3 : w2.alloc (.cells (hc h (.slice a1 l.length cap1)) 29) = w3 at *
  have hs3 : w2.heap.size < w3.heap.size := by rw [← hW3]; simp
  generalize hq : w2.heap.size = hx at *
  clear hW3 hown hp1 hb1 hb2 hk1 hq
  replace hpb1 := Lib.hid hpb1
  replace hav := Lib.hid hav
  go_upto_region 6 with (first | go_skip | (go_at_call 26; rw [act9_cells]; refine (cD.out p av _ hk3 (fun b hb => by have := hav.out b hb; omega)).mono ?_; rintro e w4 ⟨v, rfl, ho4, hk4, hO4⟩; have hv1 := ho4.one) | (refine st_new 44 _ _ rfl _ 44 _ rfl rfl rfl (rc X.2.code X.2.n v) rfl infoRp rfl (rc_one _ _ _ hv1) ?_))
  have hR5 := hnew w4 (.cells (rc X.2.code X.2.n v) 44)
  have hk5 := hk4.below ((Below.refl _ _).alloc (Nat.le_refl _) (.cells (rc X.2.code X.2.n v) 44))
  have hH5 := hold ((hO4.block hx (hlt hH3) (by omega)).trans hH3) (.cells (rc X.2.code X.2.n v) 44)
  have hp5 := (hO4.pays hp3 fun hl b off s e => by have := hpb1.out b off s e; omega).alloc (.cells (rc X.2.code X.2.n v) 44)
  have hB5 : Below w.heap.size w (w4.alloc (.cells (rc X.2.code X.2.n v) 44)) := (((only_new (av := fun b => w.heap.size ≤ b) hB3).step hO4 fun b e => by left; omega).more ((Below.refl _ _).alloc (Nat.le_refl _) _)).below (Nat.le_refl _) fun _ h => h
  have hs4 := hO4.size
  obtain ⟨al, cl, rfl, _, _⟩ := ho4.at_
  generalize w4.alloc (.cells (rc X.2.code X.2.n (.slice al (nats X.2.done).length cl)) 44) = w5 at *
  generalize w4.heap.size = hr at *
  clear hO4 hk4 hH3 hp3 hk3 ho4
  have cR := cells_at hR5
  by_cases hcd : X.2.code = 0
  · have q0 : (X.2.code == 0) = true := by rw [beq_iff_eq]; exact hcd
    obtain ⟨eh, el, en, ed⟩ := hcl.out hcd
    replace cH2 := cH2.out p _ _ hk5
    rw [eh, el] at cH2
    have en0 : (nats X.2.done).length = 0 := by rw [ed]; rfl
    replace eh := Lib.hid eh
    replace el := Lib.hid el
    replace en := Lib.hid en
    replace ed := Lib.hid ed
    replace hcd := Lib.hid hcd
    replace cH2 := Lib.hid cH2
    replace en0 := Lib.hid en0
    go_upto_region 10 with (first | go_skip | (go_at_call 21; refine cH2.out.mono ?_; rintro e w6 ⟨⟨u, rfl, hown⟩, hb6⟩; obtain ⟨a6, cap6, rfl, hp6, hpb6⟩ := hown.at_) | (refine st_new 29 _ _ rfl _ 29 _ rfl rfl rfl (hc h (.slice a6 l.length cap6)) rfl info30 rfl (hc_one _ _ rfl) ?_))
    clear hown hpb6
    have hX7 := hnew w6 (.cells (hc h (.slice a6 l.length cap6)) 29)
    have hp7 := hp6.alloc (.cells (hc h (.slice a6 l.length cap6)) 29)
    have hB57 := hb6.alloc hb6.size (.cells (hc h (.slice a6 l.length cap6)) 29)
    have hB7 := bstep hB5 hB5.size hB57
    have hH7 := hkeep hB57 hH5
    have hR7 := hkeep hB57 hR5
    have hp57 := hp5.below hB57
    have hx6 := hb6.size
    generalize w6.alloc (.cells (hc h (.slice a6 l.length cap6)) 29) = w7 at *
    generalize w6.heap.size = xb at *
    have el6 : (l.map Pay.shut).length = l.length := List.length_map _
    clear hB57 hb6 hH5 hR5 hp5 cR hB5 hp6
    replace el6 := Lib.hid el6
    have cX := cells_at hX7
    go_wp2_with fail
    clear cX
    have hml : (l.length : Int) ≤ 9223372036854775807 := by omega
    go_loopg [7, 35] l.length (fun g s7 s35 wr => ∃ j : Nat, j ≤ l.length ∧ g = l.length - j ∧ s35 = .int .i64 j ∧ s7 = .int .i64 (waiting (l.take j) : Nat) ∧ Below w7.heap.size w7 wr)
    case atStart => exact ⟨0, by omega, rfl, rfl, rfl, Below.refl _ _⟩
    case round =>
      obtain ⟨j, hj, rfl, rfl, rfl, hbw⟩ := hrel
      by_cases h4 : j < l.length
      · have h4d : decide ((j : Int) < l.length) = true := decide_eq_true (by omega)
        obtain ⟨q, hpk⟩ : ∃ q, l[j]? = some q := ⟨l[j], List.getElem?_eq_getElem h4⟩
        have hpk' : (l.map Pay.shut)[j]? = some q.shut := by rw [List.getElem?_map, hpk]; rfl
        have hwt := waiting_takeP hpk
        have hst := shut_st q
        have hwb : waiting (l.take j) ≤ j := by
          have h1 := List.countP_le_length (p := fun p : Pay => decide (p.st = 1)) (l := l.take j)
          have h2 : waiting (l.take j) ≤ (l.take j).length := by first | exact h1 | (unfold waiting; exact List.countP_le_length)
          rw [List.length_take] at h2; omega
        obtain ⟨s, hs⟩ : ∃ s, q.shut = s := ⟨_, rfl⟩
        rw [hs] at hpk' hst
        obtain ⟨b1, o1, rfl, _, hc1⟩ := (hp7.below hbw).row (by rw [el6.out]; omega)
        have hcp : ∀ m u, (pc s)[m]? = some u → wr.cell? ⟨b1, o1 + j * 6 + m, none⟩ = some u := fun m u hu => by rw [Nat.add_assoc]; exact hc1 j s hpk' m u hu
        obtain ⟨b2, o2, rfl, hb2, hc2⟩ := (hp57.below hbw).row (by omega)
        have hco : wr.cell? ⟨b2, o2 + j * 6 + 4, none⟩ = some (.int .i64 q.st) := by rw [Nat.add_assoc]; exact hc2 j q hpk 4 _ rfl
        have hHr := hkeep hbw hH7
        replace hcp := Lib.hid hcp
        replace hwt := Lib.hid hwt
        replace hpk := Lib.hid hpk
        replace hpk' := Lib.hid hpk'
        replace hs := Lib.hid hs
        replace hco := Lib.hid hco
        clear hc1 hc2
        go_upto_region 13 with (first | go_skip | (refine ld_cells 70 _ rfl rfl b1 (o1 + j * 6) rfl (pc s) _ Try.underlying70 rfl info36 hcp.out ?_) | (refine st_new 70 _ _ rfl _ 70 _ rfl rfl rfl (pc s) rfl info36 rfl (pc_one s) ?_))
        have hQ := hnew wr (.cells (pc s) 70)
        have hH8 := hold hHr (.cells (pc s) 70)
        have hco8 : (wr.alloc (.cells (pc s) 70)).cell? ⟨b2, o2 + j * 6 + 4, none⟩ = some (.int .i64 q.st) := (((Below.refl _ _).alloc (Nat.le_refl _) (.cells (pc s) 70)).cell (p := ⟨b2, _, none⟩) hb2).trans hco.out
        have hb8 := hbw.alloc hbw.size (.cells (pc s) 70)
        generalize wr.alloc (.cells (pc s) 70) = w8 at *
        generalize wr.heap.size = qb at *
        clear hHr hco hcp hbw
        have cQ := cells_at hQ
        have cH8 := cells_at hH8
        have hbn : ∀ k, Below w7.heap.size w7 (w8.drewN k) := fun k => below_drewN hb8 k
        replace hbn := Lib.hid hbn
        by_cases h1 : q.st = 1
        · rw [if_pos h1] at hst
          have e1 : (s.st == 1) = false := by rw [hst]; rfl
          have e2 : (s.st == q.st) = false := by rw [hst, h1]; rfl
          have e3 : (s.st != q.st) = true := by rw [bne, e2]; rfl
          replace hwt := hwt.out
          rw [if_pos h1] at hwt
          replace hwt := Lib.hid hwt
          replace hst := Lib.hid hst
          replace h1 := Lib.hid h1
          go_upto_region 15 with fail
          go_big_quiet (fail)
          go_wp2_with fail
          go_roundg (l.length - (j + 1))
          case measure => omega
          case rel => exact ⟨j + 1, by omega, rfl, by go_num, by rw [hwt.out]; go_num, hbn.out _⟩
        · rw [if_neg h1] at hst
          have e1 : (s.st == 1) = false := by rw [hst, beq_eq_false_iff_ne]; exact h1
          have e2 : (s.st == q.st) = true := by rw [hst]; simp
          have e3 : (s.st != q.st) = false := by rw [bne, e2]; rfl
          replace hwt := hwt.out
          rw [if_neg h1] at hwt
          replace hwt := Lib.hid hwt
          replace hst := Lib.hid hst
          replace h1 := Lib.hid h1
          go_upto_region 15 with fail
          go_big_quiet (fail)
          go_wp2_with fail
          go_roundg (l.length - (j + 1))
          case measure => omega
          case rel => exact ⟨j + 1, by omega, rfl, by go_num, by rw [hwt.out]; rfl, hbn.out _⟩
      · have h4d : decide ((j : Int) < l.length) = false := decide_eq_false (by omega)
        obtain rfl : j = l.length := by omega
        rw [List.take_length]
        have hH9 := hkeep hbw hH7
        have hX9 := hkeep hbw hX7
        have hR9 := hkeep hbw hR7
        have hB9 := hB7.trans (hbw.mono hB7.size)
        have cR9 := cells_at hR9
        have qn : (((waiting l : Nat) : Int) == X.2.n) = true := by rw [beq_iff_eq]; exact en.out.symm
        have qd : (((nats X.2.done).length : Int) == 0) = true := by rw [en0.out]; rfl
        go_wp2_with (first | go_skip | (refine ld_mid 24 _ rfl rfl _ 0 rfl _ _ (accs h) _ _ hX9 Try.underlying24 rfl info25 (hc_accs h _) ?_) | (refine ld_mid 24 _ rfl rfl _ 0 rfl _ _ (accs h) _ _ hH9 Try.underlying24 rfl info25 (hc_accs h _) ?_) | (refine ld_mid 26 _ rfl rfl _ 8 rfl _ _ (sents h) _ _ hX9 Try.underlying26 rfl infoS (hc_sents h _) ?_) | (refine ld_mid 26 _ rfl rfl _ 8 rfl _ _ (sents h) _ _ hH9 Try.underlying26 rfl infoS (hc_sents h _) ?_))
        go_ret
        exact ⟨rfl, hB9⟩
  · have q0 : (X.2.code == 0) = false := by rw [beq_eq_false_iff_ne]; exact hcd
    obtain ⟨_, _, eh, el, _⟩ := hrf.out hcd
    have cH3 := fun w hB => cH2.out p (fun x => av x ∨ (Value.slice al (nats X.2.done).length cl).ownBlock = some x) w hB
    rw [eh, el] at cH3
    replace eh := Lib.hid eh
    replace el := Lib.hid el
    replace hcd := Lib.hid hcd
    replace cH3 := Lib.hid cH3
    replace hk5 := Lib.hid hk5
    go_upto_region 7 with fail
    have hI0 : Below w5.heap.size w5 w5.drew := (Below.refl _ _).drew
    refine wpG_start (Below w5.heap.size w5) 4 (by kernel_rfl) ?_
    have hkd := hk5.out.below hI0
    have hHd : ∀ w', Below w5.heap.size w5 w' → w'.heap[hx]? = some (.cells (hc h (.slice a1 l.length cap1)) 29 (0, 0)) := fun w' hb => hkeep hb hH5
    have hpd := hp5.below hI0
    replace hkd := Lib.hid hkd
    replace hpd := Lib.hid hpd
    generalize World.drew w5 = wd at *
    refine wpG_put 26 (i := 0) (oi := _) (v := (.pointer (some ⟨p, 0, none⟩))) [3, 1, 0] rfl rfl (by kernel_rfl) (by kernel_rfl) (by kernel_rfl) (by kernel_rfl) (fun _ _ _ h => h) hI0 ?hy1 ?rs1
    case hy1 => exact Or.inl ⟨by rfl, by intro w' hb; go_simp⟩
    (try simp only [Act.put]); (try simp only [List.setIfInBounds_toArray]); (try simp only [List.set_cons_succ]); (try simp only [List.set_cons_zero]); (try simp only [List.size_toArray])
    refine wpG_put 28 (i := 2) (oi := _) (v := (.agg (hc h (.slice a1 l.length cap1)))) [3, 2] rfl rfl (by kernel_rfl) (by kernel_rfl) (by kernel_rfl) (by kernel_rfl) (fun _ _ _ h => h) hI0 ?hy2 ?rs2
    case hy2 => exact yields_row 29 _ rfl rfl _ rfl _ _ _ _ (fun w' hb => hHd w' hb) Try.underlying29 rfl info30
    (try simp only [Act.put]); (try simp only [List.setIfInBounds_toArray]); (try simp only [List.set_cons_succ]); (try simp only [List.set_cons_zero]); (try simp only [List.size_toArray])
    refine wpG_one (i := 1) (by kernel_rfl) rfl ?_
    go_wp2_with (first | go_skip | (go_at_call 21; refine (cH3.out _ hkd.out).mono ?_; rintro e w5 ⟨⟨u, rfl, hu⟩, hb5⟩; obtain ⟨a5, cap5, rfl, hp5, _⟩ := hu.at_))
    have hI5 := hI0.trans (hb5.mono hI0.size)
    refine ⟨hI5, ?_⟩
    (try simp only [Act.put]); (try simp only [List.setIfInBounds_toArray]); (try simp only [List.set_cons_succ]); (try simp only [List.set_cons_zero]); (try simp only [List.size_toArray])
    refine wpG_one (i := 3) (by kernel_rfl) rfl ?_
    go_wp2_with (first | go_skip | (go_at_call 40; refine (topSameHouse_eq h l a5 a1 cap5 cap1 _ hp5 (hpd.out.below hb5)).mono ?_; rintro e w6 ⟨rfl, hb6⟩))
    have hI6 := hI5.trans (hb6.mono hI5.size)
    refine ⟨hI6, ?_⟩
    (try simp only [Act.put]); (try simp only [List.setIfInBounds_toArray]); (try simp only [List.set_cons_succ]); (try simp only [List.set_cons_zero]); (try simp only [List.size_toArray])
    refine wpG_drop 4 rfl (by kernel_rfl) ?_
    simp only [List.drop_succ_cons, List.drop_zero]
    go_wp2_with fail
    go_ret
    exact ⟨rfl, hB5.trans (hI6.mono hB5.size)⟩
end Go.Proofs.Ytggfdkkhlokmlab

