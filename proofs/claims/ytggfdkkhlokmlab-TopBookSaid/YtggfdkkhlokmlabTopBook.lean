/- TopBook: the walk. -/
import Derived.Deep.DeepCutAuto
import Derived.Test.YtggfdkkhlokmlabTopQuiet
namespace Go.Proofs.Ytggfdkkhlokmlab
open Go.RowKit
attribute [local go_sem] hc_pays hc_next hc_size rc_0 rc_1 rc_2 rc_size
theorem act9_cellsB : (.agg #[.int .i64 9, .int .i64 0, .int .i64 0, .int .i64 0, .int .i64 0] : Value) = .agg (dc act9) := rfl
theorem act10_cells : (.agg #[.int .i64 10, .int .i64 0, .int .i64 0, .int .i64 0, .int .i64 0] : Value) = .agg (dc act10) := rfl
theorem act11_cells : (.agg #[.int .i64 11, .int .i64 0, .int .i64 0, .int .i64 0, .int .i64 0] : Value) = .agg (dc act11) := rfl
/-- A bank that works, alone; the power is there. -/
structure Alone (w : World) (p n : Nat) (av : Nat → Prop) (h : Hs) (l : List Pay) (K : Bk) : Prop where
  bank : BankAt w p av K
  no : ¬ av p
  lt : ∀ b, av b → b < w.heap.size
  work : ∃ g, Works K g
  up : K.down = false
  acts : K.acts ≤ n
  hs : K.h = h
  ls : K.l = l
theorem Alone.below {w w' : World} {p n : Nat} {av : Nat → Prop} {h : Hs} {l : List Pay} {K : Bk} (a : Alone w p n av h l K) (hb : Below w.heap.size w w') : Alone w' p n av h l K :=
  { a with bank := a.bank.below hb, lt := fun b x => Nat.lt_of_lt_of_le (a.lt b x) hb.size }
theorem did_lt {w w' : World} {p : Nat} {av : Nat → Prop} {X : Bk × Rp} {v : Value} (hl : ∀ b, av b → b < w.heap.size) (ho : OwnInts w' w.heap.size v (nats X.2.done)) (hO : Only (fun b => b = p) w w') : ∀ b, (av b ∨ v.ownBlock = some b) → b < w'.heap.size :=
  fun b x => x.elim (fun y => Nat.lt_of_lt_of_le (hl b y) hO.size) fun e => ints_own_lt ho e
theorem did_no {w w' : World} {p : Nat} {av : Nat → Prop} {X : Bk × Rp} {v : Value} (hn : ¬ av p) (hp : p < w.heap.size) (ho : OwnInts w' w.heap.size v (nats X.2.done)) : ¬ (av p ∨ v.ownBlock = some p) :=
  fun x => x.elim hn fun e => by have := ho.own e; omega
/-- A failure is asked for, and a close. -/
theorem book_two {K : Bk} {g : List Deed × List Deed} (k : Works K g) (hd : K.down = false) (ha : K.acts < 198) :
    (∃ g1, Works (doL K act10).1 g1) ∧ (doL K act10).1.acts = K.acts + 1 ∧ (∃ g2, Works (doL (doL K act10).1 act9).1 g2) ∧ (doL (doL K act10).1 act9).1.acts = K.acts + 2 ∧ (doL (doL K act10).1 act9).1.h = K.h ∧ (doL (doL K act10).1 act9).1.l = K.l ∧
      (((doL (doL K act10).1 act9).2.code = 5 ∧ (doL (doL K act10).1 act9).1.down = false) ∨ ((doL (doL K act10).1 act9).2.code = 7 ∧ (doL (doL K act10).1 act9).1.down = true ∧
        (∃ g3, Works (doL (doL (doL K act10).1 act9).1 act11).1 g3) ∧ (doL (doL (doL K act10).1 act9).1 act11).1.acts = K.acts + 3 ∧ (doL (doL (doL K act10).1 act9).1 act11).2.code = 0 ∧ (doL (doL (doL K act10).1 act9).1 act11).1.down = false ∧ (doL (doL (doL K act10).1 act9).1 act11).1.h = K.h ∧ (doL (doL (doL K act10).1 act9).1 act11).1.l = K.l)) := by
  have h1 := do_fail0 hd (by omega)
  have k1 : Works (doL K act10).1 g := by
    rw [h1]
    exact ⟨k.noted, k.house, k.up, k.cut, k.small, by simp, by simp only [Bk.tick]; omega⟩
  have a1 : (doL K act10).1.acts = K.acts + 1 := by rw [h1]; rfl
  have d1 : (doL K act10).1.down = false := by rw [h1]; exact hd
  have f1 : (doL K act10).1.fail = 0 := by rw [h1]
  have hh1 : (doL K act10).1.h = K.h := by rw [h1]; rfl
  have hl1 : (doL K act10).1.l = K.l := by rw [h1]; rfl
  obtain ⟨e1, e2, e3, e4⟩ := do_lose k1 d1 f1 (by omega)
  have k2 := k1.step act9
  refine ⟨⟨_, k1⟩, a1, ⟨_, k2⟩, by rw [e3, a1], by rw [e1, hh1], by rw [e2, hl1], ?_⟩
  rcases e4 with h | ⟨h5, h6, h7⟩
  · exact .inl h
  · obtain ⟨o1, o2, o3⟩ := do_open h6 (by omega) h7 k.noted
    have ho := k.house
    rw [ho] at o3
    obtain ⟨o4, o5⟩ := Prod.mk.inj o3
    exact .inr ⟨h5, h6, ⟨_, k2.step act11⟩, by rw [do_acts _ _ (by omega), e3, a1], o1, o2, o4, o5⟩
set_option maxRecDepth 100000 in
set_option maxHeartbeats 4000000 in
theorem topBook_any (l0 : List Deed) (a0 : Option Addr) (cap0 : Nat) (w : World) (hl : ActsAt w a0 cap0 l0) :
    Calls Try.prog 12 #[.slice a0 l0.length cap0] w fun e w' => e = .returned (.bool true) ∧ Below w.heap.size w w' := by
  have cP := playQ_any w.heap.size l0 a0 cap0 w hl (lt_of_acts hl) (Nat.le_refl _)
  have hw := bs_works l0 (min l0.length 80)
  have hac : (Bs l0 (min l0.length 80)).acts ≤ 80 := by rw [bs_acts (by omega) (by omega)]; omega
  have hPl := fun w' p av (h : Played w.heap.size l0 w w' p av) => h.bank
  have cD : ∀ p av K a w, BankAt w p av K → (∀ x, av x → x < w.heap.size) → (∃ g, Works K g) → Calls Try.prog 26 #[.pointer (some ⟨p, 0, none⟩), .agg (dc a)] w (DoPost p av (doL K a) w) := fun p av K a w hB hav hg => by
    obtain ⟨g, hw⟩ := hg
    exact do_any p av K a w hB hav hw.small hw.fail
  obtain ⟨K, hK⟩ : ∃ K, Bs l0 (min l0.length 80) = K := ⟨_, rfl⟩
  obtain ⟨g, hG⟩ : ∃ g, Gs l0 (min l0.length 80) = g := ⟨_, rfl⟩
  rw [hK] at hPl hw hac
  rw [hG] at hw
  replace hK := Lib.hid hK
  replace hG := Lib.hid hG
  replace cP := Lib.hid cP
  replace hPl := Lib.hid hPl
  replace cD := Lib.hid cD
  replace hw := Lib.hid hw
  go_enter Try.func12, Try.ntmps12
  go_upto_region 4 with (first | go_skip | (go_at_call 19; refine cP.out.mono ?_; rintro e w1 ⟨p, av, rfl, hp1⟩))
  have hk1 := hPl.out _ _ _ hp1
  have hb1 := hp1.below
  have hpw := hp1.new
  have hpa := hp1.not
  have hav := hp1.lt
  clear hp1
  replace hav := Lib.hid hav
  go_upto_if 25 with (first | go_skip | (go_at_call 24; refine (bankBook_any p av K _ hk1).mono ?_; rintro e w2 ⟨rfl, hb2⟩))
  have hk2 := hk1.below hb2
  have hB2 := bstep hb1 hb1.size hb2
  have hs1 := hb1.size
  have hs2 := hb2.size
  clear hk1 hb1 hb2
  obtain ⟨Dn, hD⟩ : ∃ Dn, K.down = Dn := ⟨_, rfl⟩
  rw [hD]
  replace hD := Lib.hid hD
  go_cut [5, 6] (fun s5 s6 wx => ∃ av' K1, Alone wx p 81 av' K1.h K1.l K1 ∧ Below w.heap.size w wx)
  case first =>
    cases hDn : Dn with
    | true =>
      have hd : K.down = true := by rw [hD.out, hDn]
      have hd1 := do_open_up (B := K) hd (by omega)
      have ha1 := do_acts K act11 (by omega)
      have hw1 := hw.out.step act11
      replace hd1 := Lib.hid hd1
      replace hd := Lib.hid hd
      replace hDn := Lib.hid hDn
      replace ha1 := Lib.hid ha1
      replace hw1 := Lib.hid hw1
      go_wp2_with (first | go_skip | (go_at_call 26; rw [act11_cells]; refine (cD.out p av K act11 _ hk2 (fun b hb => by have := hav.out b hb; omega) ⟨_, hw.out⟩).mono ?_; rintro e w3 ⟨v, rfl, ho, hk3, hO3⟩))
      go_meet
      case rel => exact ⟨_, _, ⟨hk3, did_no hpa hk2.lt ho, did_lt (fun b hb => by have := hav.out b hb; omega) ho hO3, ⟨_, hw1.out⟩, hd1.out, by rw [ha1.out]; omega, rfl, rfl⟩, ((only_new (av := fun b => w.heap.size ≤ b) hB2).step hO3 fun b e => by left; omega).below (Nat.le_refl _) fun _ h => h⟩
    | false =>
      have hd : K.down = false := by rw [hD.out, hDn]
      replace hDn := Lib.hid hDn
      go_wp2_with fail
      go_meet
      case rel => exact ⟨av, K, ⟨hk2, hpa, fun b hb => by have := hav.out b hb; omega, ⟨_, hw.out⟩, hd, by omega, rfl, rfl⟩, hB2⟩
  case rest =>
    clear hk2 hB2 hs2 hac hw hpa hav hPl cP
    obtain ⟨av1, K1, hA, hB⟩ := hcut
    obtain ⟨H, hH⟩ : ∃ H, K1.h = H := ⟨_, rfl⟩
    obtain ⟨L, hL⟩ : ∃ L, K1.l = L := ⟨_, rfl⟩
    rw [hH, hL] at hA
    have cH := fun p av w hB => bankHouse_any p av K1 w hB
    rw [hH, hL] at cH
    replace hH := Lib.hid hH
    replace hL := Lib.hid hL
    replace cH := Lib.hid cH
    replace hA := Lib.hid hA
    go_upto_region 8 with (first | go_skip | (go_at_call 21; refine (cH.out p av1 _ hA.out.bank).mono ?_; rintro e w2 ⟨⟨u, rfl, hown⟩, hb2⟩; obtain ⟨a1, cap1, rfl, hp1, hpb1⟩ := hown.at_) | (refine st_new 29 _ _ rfl _ 29 _ rfl rfl rfl (hc H (.slice a1 L.length cap1)) rfl info30 rfl (hc_one _ _ rfl) ?_))
    have hH3 := hnew w2 (.cells (hc H (.slice a1 L.length cap1)) 29)
    have hp3 := hp1.alloc (.cells (hc H (.slice a1 L.length cap1)) 29)
    have hA3 := (hA.out.below hb2).below ((Below.refl _ _).alloc (Nat.le_refl _) (.cells (hc H (.slice a1 L.length cap1)) 29))
    have hB3 := (bstep hB hB.size hb2).alloc (bstep hB hB.size hb2).size (.cells (hc H (.slice a1 L.length cap1)) 29)
    have hpx : p < w2.heap.size := Nat.lt_of_lt_of_le hA.out.bank.lt hb2.size
    have hpb : 0 < L.length → ∀ b off s, a1 = some ⟨b, off, s⟩ → b ≠ p := fun _ b off s e => by have := hpb1 b off s e; have := hA.out.bank.lt; omega
    generalize hW3 : w2.alloc (.cells (hc H (.slice a1 L.length cap1)) 29) = w3 at *
    generalize hq : w2.heap.size = hx at *
    clear hW3 hown hp1 hb2 hq hpb1 hA hB hH hL cH
    go_wp2_with fail
    go_loopg [31] 2 (fun g s31 wr => ∃ (i : Nat) (av : Nat → Prop) (K : Bk), i ≤ 2 ∧ g = 2 - i ∧ s31 = .int .i64 i ∧ Alone wr p (81 + 3 * i) av H L K ∧ wr.heap[hx]? = some (.cells (hc H (.slice a1 L.length cap1)) 29 (0, 0)) ∧ PaysAt wr a1 cap1 L ∧ Below w.heap.size w wr)
    case atStart => exact ⟨0, av1, K1, by omega, rfl, rfl, hA3, hH3, hp3, hB3⟩
    case round =>
      clear hA3 hH3 hp3 hB3
      obtain ⟨i, av, K, hi, rfl, rfl, hA, hH, hp, hB⟩ := hrel
      by_cases h4 : i < 2
      · have h4d : decide ((i : Int) < 2) = true := decide_eq_true (by omega)
        have hac := hA.acts
        obtain ⟨g0, hw⟩ := hA.work
        obtain ⟨hw1, ha1, hw2, ha2, hh2, hl2, h57⟩ := book_two hw hA.up (by omega)
        have hd0 := hA.up
        have hbk := hA.bank
        have hno := hA.no
        have hlt0 := hA.lt
        rw [hA.hs] at hh2
        rw [hA.ls] at hl2
        have c1 := fun w hB hav => cD.out p av K act10 w hB hav ⟨g0, hw⟩
        obtain ⟨X1, hX1⟩ : ∃ X, doL K act10 = X := ⟨_, rfl⟩
        rw [hX1] at hw1 ha1 hw2 ha2 hh2 hl2 h57 c1
        have c2 := fun av w hB hav => cD.out p av X1.1 act9 w hB hav hw1
        obtain ⟨X2, hX2⟩ : ∃ X, doL X1.1 act9 = X := ⟨_, rfl⟩
        rw [hX2] at hw2 ha2 hh2 hl2 h57 c2
        have c3 := fun av w hB hav => cD.out p av X2.1 act11 w hB hav hw2
        obtain ⟨X3, hX3⟩ : ∃ X, doL X2.1 act11 = X := ⟨_, rfl⟩
        rw [hX3] at h57 c3
        have hKh : K.h = H := hA.hs
        have hKl : K.l = L := hA.ls
        rw [hKh, hKl] at h57
        clear hw hA
        replace hX1 := Lib.hid hX1
        replace hX2 := Lib.hid hX2
        replace hX3 := Lib.hid hX3
        replace hKh := Lib.hid hKh
        replace hKl := Lib.hid hKl
        replace hw1 := Lib.hid hw1
        replace ha1 := Lib.hid ha1
        replace hw2 := Lib.hid hw2
        replace ha2 := Lib.hid ha2
        replace hh2 := Lib.hid hh2
        replace hl2 := Lib.hid hl2
        replace h57 := Lib.hid h57
        replace hd0 := Lib.hid hd0
        replace hlt0 := Lib.hid hlt0
        replace c1 := Lib.hid c1
        replace c2 := Lib.hid c2
        replace c3 := Lib.hid c3
        go_upto_region 11 with (first | go_skip | (go_at_call 26; rw [act10_cells]; refine (c1.out _ hbk hlt0.out).mono ?_; rintro e w4 ⟨v4, rfl, ho4, hk4, hO4⟩))
        have hno4 := did_no hno hbk.lt ho4
        have hlt4 := did_lt hlt0.out ho4 hO4
        have hH4 := (hO4.block hx (hlt hH) (by omega)).trans hH
        have hp4 := hO4.pays hp hpb
        have hB4 := ((only_new (av := fun b => w.heap.size ≤ b) hB).step hO4 fun b e => by left; omega).below (Nat.le_refl _) fun _ h => h
        clear hno hlt0 hH hp hB hO4 ho4 hbk
        replace hlt4 := Lib.hid hlt4
        go_upto_region 12 with (first | go_skip | (go_at_call 26; rw [act9_cellsB]; refine (c2.out _ _ hk4 hlt4.out).mono ?_; rintro e w5 ⟨v5, rfl, ho5, hk5, hO5⟩; have hv5 := ho5.one) | (refine st_new 44 _ _ rfl _ 44 _ rfl rfl rfl (rc X2.2.code X2.2.n v5) rfl infoRp rfl (rc_one _ _ _ hv5) ?_))
        have hno5 := did_no (p := p) (av := fun x => av x ∨ v4.ownBlock = some x) hno4 hk4.lt ho5
        have hlt5 := did_lt hlt4.out ho5 hO5
        have hH5 := hold ((hO5.block hx (hlt hH4) (by omega)).trans hH4) (.cells (rc X2.2.code X2.2.n v5) 44)
        have hp5 := (hO5.pays hp4 hpb).alloc (.cells (rc X2.2.code X2.2.n v5) 44)
        have hR5 := hnew w5 (.cells (rc X2.2.code X2.2.n v5) 44)
        have hk6 := hk5.below ((Below.refl _ _).alloc (Nat.le_refl _) (.cells (rc X2.2.code X2.2.n v5) 44))
        have hB5 : Below w.heap.size w (w5.alloc (.cells (rc X2.2.code X2.2.n v5) 44)) := (((only_new (av := fun b => w.heap.size ≤ b) hB4).step hO5 fun b e => by left; omega).more ((Below.refl _ _).alloc (Nat.le_refl _) _)).below (Nat.le_refl _) fun _ h => h
        have hs5 : w5.heap.size < (w5.alloc (.cells (rc X2.2.code X2.2.n v5) 44)).heap.size := by simp
        generalize w5.alloc (.cells (rc X2.2.code X2.2.n v5) 44) = w6 at *
        generalize w5.heap.size = rb at *
        clear hno4 hlt4 hH4 hp4 hB4 hO5 ho5 hk4 hk5
        have cR := cells_at hR5
        have hlt6 := fun b hb => Nat.lt_trans (hlt5 b hb) hs5
        clear hlt5
        replace hlt6 := Lib.hid hlt6
        rcases h57.out with ⟨hc5, hd5⟩ | ⟨hc7, hd7, hw3, ha3, hc3, hd3, hh3, hl3⟩
        · have q7 : (X2.2.code == 7) = false := by rw [hc5]; rfl
          have q7' : (X2.2.code != 7) = true := by rw [bne, q7]; rfl
          have q5 : (X2.2.code == 5) = true := by rw [hc5]; rfl
          have q5' : (X2.2.code != 5) = false := by rw [bne, q5]; rfl
          have cH := fun av w hB => bankHouse_any p av X2.1 w hB
          rw [hh2.out, hl2.out] at cH
          replace cH := Lib.hid cH
          replace hc5 := Lib.hid hc5
          go_upto_region 14 with fail
          go_upto_region 19 with (first | go_skip | (go_at_call 24; refine (bankBook_any p _ X2.1 _ hk6).mono ?_; rintro e w7 ⟨rfl, hb7⟩; rw [hd5]))
          have hk7 := Lib.hid (hk6.below hb7)
          have hH7 := hkeep hb7 hH5
          have hp7 := hp5.below hb7
          have hB7 := bstep hB5 hB5.size hb7
          have hs7 := hb7.size
          clear hk6 hH5 hp5 hB5 hb7
          go_upto_region 19 with fail
          have hI0 : Below w7.heap.size w7 w7.drew := (Below.refl _ _).drew
          refine wpG_start (Below w7.heap.size w7) 4 (by kernel_rfl) ?_
          have hkd := hk7.out.below hI0
          have hHd : ∀ w', Below w7.heap.size w7 w' → w'.heap[hx]? = some (.cells (hc H (.slice a1 L.length cap1)) 29 (0, 0)) := fun w' hb => hkeep hb hH7
          have hpd := hp7.below hI0
          replace hkd := Lib.hid hkd
          replace hpd := Lib.hid hpd
          generalize World.drew w7 = wd at *
          refine wpG_put 60 (i := 0) (oi := _) (v := (.pointer (some ⟨p, 0, none⟩))) [3, 1, 0] rfl rfl (by kernel_rfl) (by kernel_rfl) (by kernel_rfl) (by kernel_rfl) (fun _ _ _ h => h) hI0 ?hy1 ?rs1
          case hy1 => exact Or.inl ⟨by rfl, by intro w' hb; go_simp⟩
          (try simp only [Act.put]); (try simp only [List.setIfInBounds_toArray]); (try simp only [List.set_cons_succ]); (try simp only [List.set_cons_zero]); (try simp only [List.size_toArray])
          refine wpG_put 62 (i := 2) (oi := _) (v := (.agg (hc H (.slice a1 L.length cap1)))) [3, 2] rfl rfl (by kernel_rfl) (by kernel_rfl) (by kernel_rfl) (by kernel_rfl) (fun _ _ _ h => h) hI0 ?hy2 ?rs2
          case hy2 => exact yields_row 29 _ rfl rfl _ rfl _ _ _ _ (fun w' hb => hHd w' hb) Try.underlying29 rfl info30
          (try simp only [Act.put]); (try simp only [List.setIfInBounds_toArray]); (try simp only [List.set_cons_succ]); (try simp only [List.set_cons_zero]); (try simp only [List.size_toArray])
          refine wpG_one (i := 1) (by kernel_rfl) rfl ?_
          go_wp2_with (first | go_skip | (go_at_call 21; refine (cH.out _ _ hkd.out).mono ?_; rintro e w5 ⟨⟨u, rfl, hu⟩, hb5⟩; obtain ⟨a5, cap5, rfl, hp5, _⟩ := hu.at_))
          have hI5 := hI0.trans (hb5.mono hI0.size)
          refine ⟨hI5, ?_⟩
          (try simp only [Act.put]); (try simp only [List.setIfInBounds_toArray]); (try simp only [List.set_cons_succ]); (try simp only [List.set_cons_zero]); (try simp only [List.size_toArray])
          refine wpG_one (i := 3) (by kernel_rfl) rfl ?_
          go_wp2_with (first | go_skip | (go_at_call 40; refine (topSameHouse_eq H L a5 a1 cap5 cap1 _ hp5 (hpd.out.below hb5)).mono ?_; rintro e w6 ⟨rfl, hb6⟩))
          have hI6 := hI5.trans (hb6.mono hI5.size)
          refine ⟨hI6, ?_⟩
          (try simp only [Act.put]); (try simp only [List.setIfInBounds_toArray]); (try simp only [List.set_cons_succ]); (try simp only [List.set_cons_zero]); (try simp only [List.size_toArray])
          refine wpG_drop 4 rfl (by kernel_rfl) ?_
          simp only [List.drop_succ_cons, List.drop_zero]
          have hB9 := hB7.trans (hI6.mono hB7.size)
          have hA9 : Alone w7 p (81 + 3 * (i + 1)) (fun x => (av x ∨ v4.ownBlock = some x) ∨ v5.ownBlock = some x) H L X2.1 := ⟨hk7.out, hno5, fun b hb => Nat.lt_of_lt_of_le (hlt6.out b hb) hs7, hw2.out, hd5, by rw [ha2.out]; omega, hh2.out, hl2.out⟩
          go_wp2_with fail
          go_roundg (2 - (i + 1))
          case measure => omega
          case rel => exact ⟨i + 1, _, X2.1, by omega, rfl, by go_num, hA9.below hI6, hkeep hI6 hH7, hp7.below hI6, hB9⟩
        · have q7 : (X2.2.code == 7) = true := by rw [hc7]; rfl
          have q7' : (X2.2.code != 7) = false := by rw [bne, q7]; rfl
          have cH := fun av w hB => bankHouse_any p av X3.1 w hB
          rw [hh3, hl3] at cH
          have q3 : (X3.2.code == 0) = true := by rw [hc3]; rfl
          have q3' : (X3.2.code != 0) = false := by rw [bne, q3]; rfl
          replace cH := Lib.hid cH
          replace hc7 := Lib.hid hc7
          replace hc3 := Lib.hid hc3
          replace hw3 := Lib.hid hw3
          replace ha3 := Lib.hid ha3
          replace hd3 := Lib.hid hd3
          replace hh3 := Lib.hid hh3
          replace hl3 := Lib.hid hl3
          go_upto_region 14 with fail
          go_upto_region 16 with (first | go_skip | (go_at_call 24; refine (bankBook_any p _ X2.1 _ hk6).mono ?_; rintro e w7 ⟨rfl, hb7⟩; rw [hd7]))
          have hk7 := hk6.below hb7
          have hH7 := hkeep hb7 hH5
          have hp7 := hp5.below hb7
          have hB7 := bstep hB5 hB5.size hb7
          have hs7 := hb7.size
          have hlt7 := fun b hb => Nat.lt_of_lt_of_le (hlt6.out b hb) hs7
          replace hlt7 := Lib.hid hlt7
          clear hk6 hH5 hp5 hB5 hb7 hlt6 cR hR5
          go_upto_region 17 with (first | go_skip | (go_at_call 26; rw [act11_cells]; refine (c3.out _ _ hk7 hlt7.out).mono ?_; rintro e w8 ⟨v8, rfl, ho8, hk8, hO8⟩; have hv8 := ho8.one) | (refine st_new 44 _ _ rfl _ 44 _ rfl rfl rfl (rc X3.2.code X3.2.n v8) rfl infoRp rfl (rc_one _ _ _ hv8) ?_))
          have hno8 := did_no (p := p) (av := fun x => (av x ∨ v4.ownBlock = some x) ∨ v5.ownBlock = some x) hno5 hk7.lt ho8
          have hlt8 := did_lt hlt7.out ho8 hO8
          have hH8 := hold ((hO8.block hx (hlt hH7) (by omega)).trans hH7) (.cells (rc X3.2.code X3.2.n v8) 44)
          have hp8 := (hO8.pays hp7 hpb).alloc (.cells (rc X3.2.code X3.2.n v8) 44)
          have hR8 := hnew w8 (.cells (rc X3.2.code X3.2.n v8) 44)
          have hk9 := Lib.hid (hk8.below ((Below.refl _ _).alloc (Nat.le_refl _) (.cells (rc X3.2.code X3.2.n v8) 44)))
          have hB8 : Below w.heap.size w (w8.alloc (.cells (rc X3.2.code X3.2.n v8) 44)) := (((only_new (av := fun b => w.heap.size ≤ b) hB7).step hO8 fun b e => by left; omega).more ((Below.refl _ _).alloc (Nat.le_refl _) _)).below (Nat.le_refl _) fun _ h => h
          have hs8 : w8.heap.size < (w8.alloc (.cells (rc X3.2.code X3.2.n v8) 44)).heap.size := by simp
          generalize w8.alloc (.cells (rc X3.2.code X3.2.n v8) 44) = w9 at *
          generalize w8.heap.size = rb8 at *
          clear hlt7 hH7 hp7 hB7 hO8 ho8 hk7 hk8
          have cR := cells_at hR8
          go_upto_region 19 with fail
          clear cR
          go_upto_region 19 with fail
          have hI0 : Below w9.heap.size w9 w9.drew := (Below.refl _ _).drew
          refine wpG_start (Below w9.heap.size w9) 4 (by kernel_rfl) ?_
          have hkd := hk9.out.below hI0
          have hHd : ∀ w', Below w9.heap.size w9 w' → w'.heap[hx]? = some (.cells (hc H (.slice a1 L.length cap1)) 29 (0, 0)) := fun w' hb => hkeep hb hH8
          have hpd := hp8.below hI0
          replace hkd := Lib.hid hkd
          replace hpd := Lib.hid hpd
          generalize World.drew w9 = wd at *
          refine wpG_put 60 (i := 0) (oi := _) (v := (.pointer (some ⟨p, 0, none⟩))) [3, 1, 0] rfl rfl (by kernel_rfl) (by kernel_rfl) (by kernel_rfl) (by kernel_rfl) (fun _ _ _ h => h) hI0 ?hy3 ?rs3
          case hy3 => exact Or.inl ⟨by rfl, by intro w' hb; go_simp⟩
          (try simp only [Act.put]); (try simp only [List.setIfInBounds_toArray]); (try simp only [List.set_cons_succ]); (try simp only [List.set_cons_zero]); (try simp only [List.size_toArray])
          refine wpG_put 62 (i := 2) (oi := _) (v := (.agg (hc H (.slice a1 L.length cap1)))) [3, 2] rfl rfl (by kernel_rfl) (by kernel_rfl) (by kernel_rfl) (by kernel_rfl) (fun _ _ _ h => h) hI0 ?hy4 ?rs4
          case hy4 => exact yields_row 29 _ rfl rfl _ rfl _ _ _ _ (fun w' hb => hHd w' hb) Try.underlying29 rfl info30
          (try simp only [Act.put]); (try simp only [List.setIfInBounds_toArray]); (try simp only [List.set_cons_succ]); (try simp only [List.set_cons_zero]); (try simp only [List.size_toArray])
          refine wpG_one (i := 1) (by kernel_rfl) rfl ?_
          go_wp2_with (first | go_skip | (go_at_call 21; refine (cH.out _ _ hkd.out).mono ?_; rintro e w5 ⟨⟨u, rfl, hu⟩, hb5⟩; obtain ⟨a5, cap5, rfl, hp5, _⟩ := hu.at_))
          have hI5 := hI0.trans (hb5.mono hI0.size)
          refine ⟨hI5, ?_⟩
          (try simp only [Act.put]); (try simp only [List.setIfInBounds_toArray]); (try simp only [List.set_cons_succ]); (try simp only [List.set_cons_zero]); (try simp only [List.size_toArray])
          refine wpG_one (i := 3) (by kernel_rfl) rfl ?_
          go_wp2_with (first | go_skip | (go_at_call 40; refine (topSameHouse_eq H L a5 a1 cap5 cap1 _ hp5 (hpd.out.below hb5)).mono ?_; rintro e w6 ⟨rfl, hb6⟩))
          have hI6 := hI5.trans (hb6.mono hI5.size)
          refine ⟨hI6, ?_⟩
          (try simp only [Act.put]); (try simp only [List.setIfInBounds_toArray]); (try simp only [List.set_cons_succ]); (try simp only [List.set_cons_zero]); (try simp only [List.size_toArray])
          refine wpG_drop 4 rfl (by kernel_rfl) ?_
          simp only [List.drop_succ_cons, List.drop_zero]
          have hB9 := hB8.trans (hI6.mono hB8.size)
          have hA9 : Alone w9 p (81 + 3 * (i + 1)) (fun x => ((av x ∨ v4.ownBlock = some x) ∨ v5.ownBlock = some x) ∨ v8.ownBlock = some x) H L X3.1 := ⟨hk9.out, hno8, fun b hb => Nat.lt_trans (hlt8 b hb) hs8, hw3.out, hd3.out, by rw [ha3.out]; omega, hh3.out, hl3.out⟩
          go_wp2_with fail
          go_roundg (2 - (i + 1))
          case measure => omega
          case rel => exact ⟨i + 1, _, X3.1, by omega, rfl, by go_num, hA9.below hI6, hkeep hI6 hH8, hp8.below hI6, hB9⟩
      · have h4d : decide ((i : Int) < 2) = false := decide_eq_false (by omega)
        go_wp2_with fail
        go_ret
        exact ⟨rfl, hB⟩
end Go.Proofs.Ytggfdkkhlokmlab

