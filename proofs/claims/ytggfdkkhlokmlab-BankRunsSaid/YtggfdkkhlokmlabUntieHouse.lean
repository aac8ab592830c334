/- The reference's UntieHouse: the walk. -/
import Derived.Test.YtggfdkkhlokmlabMostOf
import Derived.Test.YtggfdkkhlokmlabUntieB
namespace Go.Proofs.Ytggfdkkhlokmlab
open Go.RowKit
attribute [local go_sem] hc_pays hc_next hc_size nc_size
/-- As SweepPost; and the payments lie in their old block or in a new one, and apart from the list. -/
def UntiePostS (a0 : Option Addr) (T : St) (w : World) (e : Ending) (w' : World) : Prop := (∃ a cap v, e = .returned (.tuple #[.agg (hc T.h (.slice a T.l.length cap)), v]) ∧ PaysAt w' a cap T.l ∧ OwnInts w' w.heap.size v (nats T.d) ∧ (0 < T.l.length → ∀ b off s, a = some ⟨b, off, s⟩ → ((∃ off' s', a0 = some ⟨b, off', s'⟩) ∨ w.heap.size ≤ b) ∧ v.ownBlock ≠ some b)) ∧ Below w.heap.size w w'
set_option maxRecDepth 100000 in
set_option maxHeartbeats 4000000 in
theorem untieHouse_anyS (h : Hs) (l : List Pay) (a : Option Addr) (cap : Nat) (w : World) (hp : PaysAt w a cap l) :
  Calls Try.prog 66 #[.agg (hc h (.slice a l.length cap))] w (UntiePostS a (untieS h l) w) := by
 obtain ⟨i0, z, hi, hz0, hz1, hz2, hz3⟩ := info3z
 obtain ⟨n, hn⟩ : ∃ n, mostC h l = n := ⟨_, rfl⟩
 have hmn : mostN h l = fun b => (n b : Int) := by rw [← hn]; exact mostC_eq h l
 have hpl : ∀ b off s, a = some ⟨b, off, s⟩ → 0 < l.length → b < w.heap.size := fun b off s e hl => by
  obtain ⟨b', off', e', hbl, _⟩ := hp.row hl
  rw [e] at e'; cases e'; exact hbl
 have hpos : ∀ b, 0 < n b → GoodP h l := fun b hb => mostC_pos (b := b) (by rw [hn]; exact hb)
 have hle : ∀ (b : Nat) ys, b < 4 → IsQueue l (b : Int) ys → n b ≤ ys.length := fun b ys hb hq => by rw [← hn]; exact mostC_le hb hq
 have hqa : ∀ b : Nat, b < 4 → IsQueue l (b : Int) (ofL l (b : Int)) := fun b _ => ofL_is l _
 obtain ⟨xs, hxs⟩ : ∃ xs : Nat → List Nat, (fun b : Nat => ofL l (b : Int)) = xs := ⟨_, rfl⟩
 have hxq : ∀ b : Nat, b < 4 → IsQueue l (b : Int) (xs b) := fun b hb => by rw [← hxs]; exact hqa b hb
 obtain ⟨F, hF⟩ : ∃ F, untieS h l = F := ⟨_, rfl⟩
 rw [hF]
 obtain ⟨S, hS⟩ : ∃ S : St, (⟨h, l, []⟩ : St) = S := ⟨_, rfl⟩
 have hSl : S.l = l := by rw [← hS]
 have hfin := untie_eq (h := h) (l := l) hxq
 rw [hn, hS, hF] at hfin
 replace hfin := Lib.hid hfin
 replace hS := Lib.hid hS
 replace hSl := Lib.hid hSl
 replace hn := Lib.hid hn
 replace hmn := Lib.hid hmn
 replace hpl := Lib.hid hpl
 replace hpos := Lib.hid hpos
 replace hle := Lib.hid hle
 replace hF := Lib.hid hF
 replace hxs := Lib.hid hxs
 replace hxq := Lib.hid hxq
 replace hp := Lib.hid hp
 clear hqa
 go_enter Try.func66, Try.ntmps66
 go_upto_region 1 with fail
 generalize hW : World.alloc (World.alloc w _) _ = W0
 have hgA : W0.heap[w.heap.size]? = some (.cells (hc h (.slice a l.length cap)) 29 (0, 0)) := by rw [← hW]; exact heap_alloc2_old w _ _
 have hgZ : W0.heap[w.heap.size + 1]? = some (.cells (hc Hs.zero (.slice none 0 0)) 29 (0, 0)) := by rw [← hW]; exact heap_alloc2_new w _ _
 have hB : Below w.heap.size w W0 := by rw [← hW]; exact ((Below.refl w.heap.size w).alloc (Nat.le_refl _) _).alloc (by simp) _
 have hp0 := hp.out.below hB
 clear hW
 go_wp2_with (first | go_skip | (refine ld_row 29 _ rfl rfl _ rfl _ _ _ _ hgA Try.underlying29 rfl info30 ?_))
 refine (mostOf_any h l a cap _ hp0).mono ?_
 rintro e w1 ⟨rfl, hb1⟩
 rw [hmn.out]
 have hA1 := hold (hkeep hb1 hgA) (.cells (nc fun b => (n b : Int)) 25)
 have hZ1 := hold (hkeep hb1 hgZ) (.cells (nc fun b => (n b : Int)) 25)
 have hN1 := hnew w1 (.cells (nc fun b => (n b : Int)) 25)
 have hp1 := (hp0.below hb1).alloc (.cells (nc fun b => (n b : Int)) 25)
 have hB0 : Below w.heap.size w w1 := hB.trans (hb1.mono hB.size)
 have hB1 := hB0.alloc hB0.size (.cells (nc fun b => (n b : Int)) 25)
 clear hgA hgZ hB hp0 hb1 hB0
 replace hA1 := Lib.hid hA1
 replace hZ1 := Lib.hid hZ1
 replace hN1 := Lib.hid hN1
 go_upto_region 2 with (first | go_skip | (refine st_new 25 _ _ rfl _ 25 _ rfl rfl rfl (nc fun b => (n b : Int)) rfl info26 rfl (nc_one _) ?_))
 replace hA1 := hA1.out
 replace hZ1 := hZ1.out
 replace hN1 := hN1.out
 generalize hW : w1.alloc (.cells (nc fun b => (n b : Int)) 25) = W1 at *
 generalize hC0 : w1.heap.size = bn at *
 clear hW hC0
 have hA2 := hold hA1 (.cells (hc h (.slice a l.length cap)) 29)
 have hZ2 := hold hZ1 (.cells (hc h (.slice a l.length cap)) 29)
 have hN2 := hold hN1 (.cells (hc h (.slice a l.length cap)) 29)
 have hX2 := hnew W1 (.cells (hc h (.slice a l.length cap)) 29)
 have hp2 := hp1.alloc (.cells (hc h (.slice a l.length cap)) 29)
 have hB2 := hB1.alloc hB1.size (.cells (hc h (.slice a l.length cap)) 29)
 have hzl := hlt hZ1
 have hnl := hlt hN1
 have hsx : (W1.alloc (.cells (hc h (.slice a l.length cap)) 29)).heap.size = W1.heap.size + 1 := by simp
 clear hZ1 hN1 hp1 hB1
 replace hA2 := Lib.hid hA2
 replace hZ2 := Lib.hid hZ2
 replace hN2 := Lib.hid hN2
 replace hX2 := Lib.hid hX2
 replace hsx := Lib.hid hsx
 go_upto_region 4 with (first | go_skip | (refine ld_row 29 _ rfl rfl _ rfl _ _ _ _ hA1 Try.underlying29 rfl info30 ?_) | (refine st_new 29 _ _ rfl _ 29 _ rfl rfl rfl (hc h (.slice a l.length cap)) rfl info30 rfl (hc_one _ _ rfl) ?_))
 clear hA1
 replace hA2 := hA2.out
 replace hZ2 := hZ2.out
 replace hN2 := hN2.out
 replace hX2 := hX2.out
 replace hsx := hsx.out
 generalize hW : W1.alloc (.cells (hc h (.slice a l.length cap)) 29) = W at *
 generalize hC0 : W1.heap.size = bx at *
 clear hW hC0
 have hsw0 : SwB w.heap.size (fun b => ∃ off s, a = some ⟨b, off, s⟩) W bx S W (.slice none 0 0) := by
  rw [← hS.out]
  exact ⟨⟨a, cap, hX2, hp2, fun hl b off s e => ⟨.inl ⟨hpl.out b off s e hl, off, s, e⟩, by simp [Value.ownBlock]⟩⟩, OwnInts.nil _ _, grown_refl _ _⟩
 replace hsw0 := Lib.hid hsw0
 replace hA2 := Lib.hid hA2
 replace hZ2 := Lib.hid hZ2
 replace hN2 := Lib.hid hN2
 replace hp2 := Lib.hid hp2
 replace hB2 := Lib.hid hB2
 clear hX2
 go_wp2_with fail
 go_loopg [5, 13] 4 (fun g s5 s13 wr => ∃ m : Nat, m ≤ 4 ∧ g = 4 - m ∧ s13 = .int .i64 m ∧ SwB w.heap.size (fun b => ∃ off s, a = some ⟨b, off, s⟩) W bx (settleAll (fst4 xs n m) S) wr s5)
 case atStart => exact ⟨0, by omega, rfl, rfl, hsw0.out⟩
 case round =>
  clear hsw0
  obtain ⟨m, hm, rfl, rfl, hsw⟩ := hrel
  have hA := (hsw.kept.block w.heap.size (by omega) (by simp; omega)).trans hA2.out
  by_cases h4 : m < 4
  ·have h4d : decide ((m : Int) < 4) = true := decide_eq_true (by omega)
   have hm0 : (m : Int) < 4 := by omega
   have hpr : PaysAt wr a cap l := hp2.out.past hsw.kept fun hl b off s e => by have := hpl.out b off s e hl; omega
   have hks := hsw.kept.size
   replace hsw := Lib.hid hsw
   go_wp2_with (first | go_skip | (refine ld_row 29 _ rfl rfl _ rfl _ _ _ _ hA Try.underlying29 rfl info30 ?_) | (go_at_call 82; refine (queueOf_any h l a cap (m : Int) _ hpr).mono ?_; rintro e w2 ⟨⟨u, ys, rfl, hq, hown⟩, hb2⟩; have hls : LsB W u5 ys w2 u := LsB.own hown hks (fun x hx => hsw.out.done.ownlt hx); obtain ⟨al, cl, rfl, hil, hila⟩ := hown.at_; rw [nats_len] at hls ⊢; replace hls := Lib.hid hls; replace hq := Lib.hid hq; replace hil := Lib.hid hil; replace hila := Lib.hid hila))
   have hsw2 := Lib.hid (hsw.out.later hb2)
   have hnm := hle.out m ys h4 hq.out
   clear hsw hA hpr hks hb2 hown hil hila
   go_loopg [5, 20] ys.length (fun g s5 s20 wx => ∃ j : Nat, j ≤ ys.length ∧ g = ys.length - j ∧ s20 = .int .i64 j ∧ SwB w.heap.size (fun b => ∃ off s, a = some ⟨b, off, s⟩) W bx (settleAll (fst4 xs n m ++ (xs m).take (min j (n m))) S) wx s5 ∧ LsB W s5 ys wx (.slice al ys.length cl))
   case atStart => exact ⟨0, by omega, rfl, rfl, by simpa using hsw2.out, hls.out⟩
   case round =>
    clear hsw2 hls
    obtain ⟨j, hj, rfl, rfl, hsw, hls⟩ := hrel
    by_cases h6 : j < ys.length
    ·have h6d : decide ((j : Int) < (ys.length : Int)) = true := decide_eq_true (by omega)
     have hj2 : (j : Int) < (ys.length : Int) := by omega
     obtain ⟨i, hji⟩ : ∃ i, ys[j]? = some i := ⟨ys[j], List.getElem?_eq_getElem h6⟩
     obtain ⟨b, o, c, e, hcell, hcl1, hcl2⟩ := hls.at_ hji
     obtain ⟨rfl, -, rfl⟩ : al = some ⟨b, o, none⟩ ∧ True ∧ cl = c := by simp only [Value.slice.injEq] at e; exact ⟨e.1, trivial, e.2.2⟩
     clear e
     have hyl : (ys.length : Int) ≤ 9223372036854775807 := by unfold maxLen at hcl2; omega
     have cN : wr.cell? ⟨bn, m, none⟩ = some (.int .i64 (n m : Int)) := by rw [cells_at ((hsw.kept.block bn (by omega) (by simp; omega)).trans hN2.out), nc_get _ m h4]
     replace hq := Lib.hid hq
     by_cases h7 : j < n m
     ·have hgd := hpos.out m (by omega)
      obtain rfl : ys = xs m := (hq.out.out.eq hgd.nodup).trans ((hxq.out m h4).eq hgd.nodup).symm
      have hlen := hgd.len
      have hwk := wk_part hgd (n := n) hxq.out m h4 j (by omega) (wk_fst4 hgd (n := n) hxq.out m (by omega))
      have hwt := next_waits (h := h) (n := n) hxq.out h4 hji
      have hnx := settleAll_next (fst4 xs n m) (xs m) j i S hji
      rw [hS.out] at hwk hwt
      rw [show min j (n m) = j from by omega] at hsw
      obtain ⟨T, hT⟩ : ∃ T, settleAll (fst4 xs n m ++ (xs m).take j) S = T := ⟨_, rfl⟩
      rw [hT] at hsw hwk hwt hnx
      have hroom := hwk.room (by rw [hSl.out]; exact hlen)
      have hdl : T.d.length ≤ 24 := by have := hwk.few; rw [hSl.out] at this; omega
      have h7d : decide ((j : Int) < (n m : Int)) = true := decide_eq_true (by omega)
      have h72 : (j : Int) < (n m : Int) := by omega
      have hdn : nats (T.d ++ [i]) = nats T.d ++ [(i : Int)] := by simp [nats]
      obtain ⟨a1, cap1, hA, hpx, hap⟩ := hsw.box
      have cS := settlePay_yes T.h T.l a1 cap1 i wr hpx hroom hwt.1 hwt.2
      unfold SettlePost at cS
      rw [settled_len] at cS
      have hks := hsw.kept.size
      clear hgd hpx hap
      replace hji := Lib.hid hji
      replace hwk := Lib.hid hwk
      replace hwt := Lib.hid hwt
      replace hnx := Lib.hid hnx
      replace hT := Lib.hid hT
      replace hdn := Lib.hid hdn
      replace cS := Lib.hid cS
      replace hsw := Lib.hid hsw
      replace hls := Lib.hid hls
      go_upto_region 12 with (first | go_skip | (refine ld_row 29 _ rfl rfl _ rfl _ _ _ _ hA Try.underlying29 rfl info30 ?_) | (go_at_call 83; refine cS.out.mono ?_; rintro e w3 ⟨⟨a2, cap2, rfl, hp3, hf2⟩, hb3⟩) | (refine st_row 29 _ _ rfl rfl _ rfl _ rfl _ _ (hkeep hb3 hA) info30 rfl (hc_one _ _ rfl) ?_; intro w4 hr4 hgr4 hsz4))
      obtain ⟨hsw4, hls4⟩ := SwB.stored (by omega) hsw.out hls.out hb3 hp3 hf2 hgr4 hr4
      have hoX := Lib.hid (hsw4.done.alloc (.cells #[.int .i64 (i : Int)] 3))
      have hsX := Lib.hid (hsw4.later ((Below.refl _ _).alloc (Nat.le_refl _) (.cells #[.int .i64 (i : Int)] 3)))
      have hlX := Lib.hid (hls4.later ((Below.refl _ _).alloc (Nat.le_refl _) (.cells #[.int .i64 (i : Int)] 3)))
      have hks4 := hsw4.kept.size
      clear hsw4 hls4 hr4 hgr4 hsz4 hp3 hf2 hb3
      go_wp2_with (first | go_skip | (at_builtin; refine wpList_append_fresh _ rfl _ _ 42 rfl W.heap.size 3 i0 z 1 8 Try.underlying42 hi hz0 hz1 hz2 hz3 (by decide) u5 (nats T.d).length (icells (nats T.d)) rfl hoX.out.1 ⟨w4.heap.size, 0, none⟩ 1 1 [.int .i64 (i : Int)] rfl rfl ?c1 ?c2 ?c3 ?c4 ?c5 ?_))
      case c2 => rfl
      case c3 => rw [nats_len]; simp only [maxLen]; omega
      case c4 => rw [nats_len]; omega
      case c5 => omega
      intro v' w5 hownv hgr hv
      have hO3 : OwnInts w5 W.heap.size v' (nats (T.d ++ [i])) := by
       rw [hdn.out]
       exact OwnInts.snoc rfl (by rw [nats_len]; omega) (by rw [hsx]; exact hownv)
      obtain ⟨hsw5, hls5⟩ := SwB.noted (by omega) hsX.out hlX.out hgr hO3 (fun x hx => by first | exact hv x hx | simpa using hv x hx)
      replace hownv := Lib.hid hownv
      replace hsw5 := Lib.hid hsw5
      replace hls5 := Lib.hid hls5
      clear hgr hv hO3
      go_wp2_with fail
      go_roundg ((xs m).length - (j + 1))
      case measure => omega
      case rel => exact ⟨j + 1, by omega, rfl, by go_num, by rw [show min (j + 1) (n m) = j + 1 from by omega, hnx.out]; exact hsw5.out, hls5.out⟩
     ·have h7d : decide ((j : Int) < (n m : Int)) = false := decide_eq_false (by omega)
      have hsw := hsw
      rw [show min j (n m) = min (j + 1) (n m) from by omega] at hsw
      replace hsw := Lib.hid hsw
      replace hls := Lib.hid hls
      go_wp2_with fail
      go_roundg (ys.length - (j + 1))
      case measure => omega
      case rel => exact ⟨j + 1, by omega, rfl, by go_num, hsw.out, hls.out⟩
    ·have hjn : j = ys.length := by omega
     rw [hjn, show min ys.length (n m) = n m from by omega] at hsw
     have h6d : decide ((j : Int) < (ys.length : Int)) = false := decide_eq_false (by omega)
     replace hjn := Lib.hid hjn
     replace hsw := Lib.hid hsw
     clear hls
     go_wp2_with fail
     go_roundg (4 - (m + 1))
     case measure => omega
     case rel => exact ⟨m + 1, by omega, rfl, by go_num, hsw.out⟩
  ·obtain rfl : m = 4 := by omega
   rw [hfin.out] at hsw
   have hZ := (hsw.kept.block (w.heap.size + 1) (by omega) (by simp; omega)).trans hZ2.out
   have hBx := hB2.out.grown hsw.kept hB2.out.size fun k hk => by cases hk; omega
   obtain ⟨a1, cap1, hX, hpx, hap⟩ := hsw.box
   have hown := hsw.done
   clear hA hsw
   replace hpx := Lib.hid hpx
   replace hown := Lib.hid hown
   go_wp2_with (first | go_skip | (refine ld_row 29 _ rfl rfl _ rfl _ _ _ _ hX Try.underlying29 rfl info30 ?_) | (refine st_row 29 _ _ rfl rfl _ rfl _ rfl _ _ hZ info30 rfl (hc_one _ _ rfl) ?_; intro w5 hr5 hgr5 hsz5))
   refine bodyPost_ret (results_house2 rfl _ _ _ _ _ rfl hr5) rfl ⟨⟨a1, cap1, u5, rfl, ?_, ?_, ?_⟩, ?_⟩
   ·exact hpx.out.past hgr5 fun hl b off s e => by have := (hap hl b off s e).1; omega
   ·exact (hown.out.grownP hgr5 (by omega)).mono (by omega)
   ·intro hl b off s e
    obtain ⟨h1, h2⟩ := hap hl b off s e
    exact ⟨h1.elim (fun x => .inl x.2) fun x => .inr (by omega), h2⟩
   ·exact hBx.grown hgr5 hBx.size fun k hk => by cases hk; omega
end Go.Proofs.Ytggfdkkhlokmlab


