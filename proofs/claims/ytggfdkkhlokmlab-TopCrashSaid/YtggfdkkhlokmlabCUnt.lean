/- knot.Most on whatever house; knot.Untie: the walk. -/
import Derived.Test.YtggfdkkhlokmlabCKnt
import Derived.Test.YtggfdkkhlokmlabCMem
namespace Go.Proofs.Ytggfdkkhlokmlab
open Go.RowKit
attribute [local go_sem] hc_pays hc_next hc_size qc_size nc_size
theorem most_any (h : Hs) (l : List Pay) (a : Option Addr) (cap : Nat) (w : World) (hp : PaysAt w a cap l) : Calls Try.prog 17 #[.agg (hc h (.slice a l.length cap))] w (MostPost h l w) := by
 cases hg : goodB h l with
 | false => exact most_bad h l a cap w hp hg
 | true => exact most_good h l a cap w hp (goodB_true hg)
/-- What Most answers, as a count. -/
noncomputable def mostC (h : Hs) (l : List Pay) (b : Nat) : Nat := if goodB h l = true then mostOf h l (b : Int) else 0
theorem mostC_eq (h : Hs) (l : List Pay) : mostN h l = fun b => (mostC h l b : Int) := by
 funext b
 simp only [mostN, mostC]
 split <;> simp
theorem mostC_pos {h : Hs} {l : List Pay} {b : Nat} (hp : 0 < mostC h l b) : GoodP h l := by
 cases hg : goodB h l with
 | false => simp [mostC, hg] at hp
 | true => exact goodB_true hg
theorem mostC_le {h : Hs} {l : List Pay} {b : Nat} (hb : b < 4) {xs : List Nat} (hq : IsQueue l (b : Int) xs) : mostC h l b ≤ xs.length := by
 cases hg : goodB h l with
 | false => simp [mostC, hg]
 | true =>
  have g := goodB_true hg
  simp only [mostC, hg, if_true]
  rw [hq.eq g.nodup]
  exact (mostOf_is h g.allPay).tog.le (b : Int) (by omega) (by omega)
theorem untie_eq {h : Hs} {l : List Pay} {xs : Nat → List Nat} (hq : ∀ b : Nat, b < 4 → IsQueue l (b : Int) (xs b)) : settleAll (fst4 xs (mostC h l) 4) ⟨h, l, []⟩ = untieS h l := by
 cases hg : goodB h l with
 | false =>
  have e : ∀ b, mostC h l b = 0 := fun b => by simp [mostC, hg]
  simp [untieS, hg, fst4, e, settleAll]
 | true =>
  have g := goodB_true hg
  rw [untieS, if_pos hg, fst4_firsts l xs (mostC h l) (mostOf h l) (fun b hb => (hq b hb).eq g.nodup) (fun b _ => by simp [mostC, hg])]
theorem fst4_mem {xs : Nat → List Nat} {n : Nat → Nat} {i : Nat} : ∀ k, i ∈ fst4 xs n k → ∃ b, b < k ∧ i ∈ xs b
 | 0, h => by simp [fst4] at h
 | k + 1, h => by
  rcases List.mem_append.1 h with h | h
  ·obtain ⟨b, hb, hi⟩ := fst4_mem k h; exact ⟨b, by omega, hi⟩
  ·exact ⟨k, by omega, List.mem_of_mem_take h⟩
theorem settleAll_other {i : Nat} : ∀ (A : List Nat) (S : St), i ∉ A → payAt (settleAll A S).l i = payAt S.l i
 | [], _, _ => rfl
 | j :: A, S, h => by
  have h1 := settleAll_other (i := i) A (S.settle j) (fun hm => h (List.mem_cons_of_mem _ hm))
  rw [show settleAll (j :: A) S = settleAll A (S.settle j) from rfl, h1]
  exact settled_ne (fun e => h (by simp [e]))
theorem settleAll_len : ∀ (A : List Nat) (S : St), (settleAll A S).l.length = S.l.length
 | [], _ => rfl
 | j :: A, S => (settleAll_len A (S.settle j)).trans (settled_len S.l j)
theorem settleAll_next (A xs : List Nat) (j i : Nat) (S : St) (h : xs[j]? = some i) : settleAll (A ++ xs.take (j + 1)) S = (settleAll (A ++ xs.take j) S).settle i := by
 rw [List.take_add_one, h]
 show settleAll (A ++ (xs.take j ++ [i])) S = _
 rw [← List.append_assoc, settleAll_app]
 rfl
/-- The next of the list still waits. -/
theorem next_waits {h : Hs} {l : List Pay} {xs : Nat → List Nat} {n : Nat → Nat} (hq : ∀ b : Nat, b < 4 → IsQueue l (b : Int) (xs b)) {m j i : Nat} (hm : m < 4) (hj : (xs m)[j]? = some i) :
  i < (settleAll (fst4 xs n m ++ (xs m).take j) ⟨h, l, []⟩).l.length ∧ (payAt (settleAll (fst4 xs n m ++ (xs m).take j) ⟨h, l, []⟩).l i).st = 1 := by
 have hi := (hq m hm).mem.1 (List.mem_of_getElem? hj)
 have hno : i ∉ fst4 xs n m ++ (xs m).take j := by
  intro hmem
  rcases List.mem_append.1 hmem with h1 | h1
  ·obtain ⟨b, hb, hib⟩ := fst4_mem m h1
   have := ((hq b (by omega)).mem.1 hib).2.2
   have := hi.2.2
   omega
  ·obtain ⟨k, hk⟩ := List.mem_iff_getElem?.1 h1
   have hkj : k < j := by have := (List.getElem?_eq_some_iff.1 hk).1; rw [List.length_take] at this; omega
   rw [List.getElem?_take_of_lt hkj] at hk
   have hjl := (List.getElem?_eq_some_iff.1 hj).1
   have := (List.getElem?_inj (l := xs m) (i := k) (j := j) (by omega) (hq m hm).nodup).1 (hk.trans hj.symm)
   omega
 rw [settleAll_len, settleAll_other _ _ hno]
 exact ⟨hi.1, hi.2.1⟩
theorem wk_part {h : Hs} {l : List Pay} (g : GoodP h l) {xs : Nat → List Nat} {n : Nat → Nat} (hq : ∀ b : Nat, b < 4 → IsQueue l (b : Int) (xs b)) : ∀ (m : Nat), m < 4 → ∀ j, j ≤ (xs m).length → Wk ⟨h, l, []⟩ (settleAll (fst4 xs n m) ⟨h, l, []⟩) → Wk ⟨h, l, []⟩ (settleAll (fst4 xs n m ++ (xs m).take j) ⟨h, l, []⟩)
 | m, hm, 0, _, hk => by simpa using hk
 | m, hm, j + 1, hj, hk => by
  have ih := wk_part g hq m hm j (by omega) hk
  obtain ⟨i, hi⟩ : ∃ i, (xs m)[j]? = some i := ⟨(xs m)[j], List.getElem?_eq_getElem (by omega)⟩
  rw [settleAll_next _ _ _ _ _ hi]
  have := next_waits (h := h) (n := n) hq hm hi
  exact ih.settle this.1 this.2
theorem wk_fst4 {h : Hs} {l : List Pay} (g : GoodP h l) {xs : Nat → List Nat} {n : Nat → Nat} (hq : ∀ b : Nat, b < 4 → IsQueue l (b : Int) (xs b)) : ∀ m, m ≤ 4 → Wk ⟨h, l, []⟩ (settleAll (fst4 xs n m) ⟨h, l, []⟩)
 | 0, _ => Wk.start g
 | m + 1, hm => by
  have ih := wk_fst4 g (n := n) hq m (by omega)
  have h1 := wk_part g (n := n) hq m (by omega) (min (n m) (xs m).length) (by omega) ih
  have e : (xs m).take (min (n m) (xs m).length) = (xs m).take (n m) := by
   rw [← List.take_eq_take_min]
  rw [e] at h1
  exact h1
theorem kept_step {W w1 X w3 w4 : World} {g : Nat} {v v' : Value} (hK : W.grownBy w1 (some g)) (hd : ∀ x, v.ownBlock = some x → W.heap.size ≤ x) (hX : Below w1.heap.size w1 X) (hgr : X.grownBy w3 v.ownBlock) (hv : ∀ x, v'.ownBlock = some x → v.ownBlock = some x ∨ X.heap.size ≤ x) (hgr4 : w3.grownBy w4 (some g)) :
  W.grownBy w4 (some g) ∧ ∀ x, v'.ownBlock = some x → W.heap.size ≤ x := by
 have h1 := grown_below hK hX
 refine ⟨⟨hgr4.os.trans (hgr.os.trans h1.os), hgr4.tape.trans (hgr.tape.trans h1.tape), hgr4.output.trans (hgr.output.trans h1.output), Nat.le_trans h1.size (Nat.le_trans hgr.size hgr4.size), fun k hk hne => ?_⟩, fun x hx => ?_⟩
 ·have hkX := Nat.lt_of_lt_of_le hk h1.size
  refine (hgr4.block k (Nat.lt_of_lt_of_le hkX hgr.size) hne).trans ((hgr.block k hkX (fun e => ?_)).trans (h1.block k hk hne))
  have := hd k e.symm
  omega
 ·rcases hv x hx with h | h
  ·exact hd x h
  ·have := h1.size; omega
theorem lsNone (w : World) (v : Value) (wr : World) : LsAt w v [] wr (.slice none 0 0) := ⟨none, 0, rfl, ⟨by simp [nats], by simp [maxLen], by simp [nats], fun _ => rfl, fun h => absurd h (by simp [nats])⟩, fun h => absurd h (by simp)⟩
end Go.Proofs.Ytggfdkkhlokmlab

namespace Go.Proofs.Ytggfdkkhlokmlab
open Go.RowKit
attribute [local go_sem] hc_pays hc_next hc_size qc_size nc_size
set_option maxRecDepth 100000 in
set_option maxHeartbeats 4000000 in
theorem untie_anyS (h : Hs) (l : List Pay) (a : Option Addr) (cap : Nat) (w : World) (hp : PaysAt w a cap l) :
  Calls Try.prog 46 #[.agg (hc h (.slice a l.length cap))] w (SweepPostS a (untieS h l) w) := by
 obtain ⟨a0, ea0⟩ : ∃ a0 : Option Addr, a0 = a := ⟨_, rfl⟩
 replace ea0 := Lib.hid ea0
 obtain ⟨i0, z, hi, hz0, hz1, hz2, hz3⟩ := info3z
 obtain ⟨n, hn⟩ : ∃ n, mostC h l = n := ⟨_, rfl⟩
 have hmn : mostN h l = fun b => (n b : Int) := by rw [← hn]; exact mostC_eq h l
 have hpl : ∀ b off s, a = some ⟨b, off, s⟩ → 0 < l.length → b < w.heap.size := fun b off s e hl => by
  obtain ⟨b', off', e', hbl, _⟩ := hp.row hl
  rw [e] at e'; cases e'; exact hbl
 have hpos : ∀ b, 0 < n b → GoodP h l := fun b hb => mostC_pos (b := b) (by rw [hn]; exact hb)
 obtain ⟨F, hF⟩ : ∃ F, untieS h l = F := ⟨_, rfl⟩
 rw [hF]
 replace hn := Lib.hid hn
 replace hmn := Lib.hid hmn
 replace hpl := Lib.hid hpl
 replace hpos := Lib.hid hpos
 replace hF := Lib.hid hF
 replace hp := Lib.hid hp
 go_enter Try.func46, Try.ntmps46
 go_upto_region 1 with fail
 generalize hW : World.alloc (World.alloc w _) _ = W0
 have hgA : W0.heap[w.heap.size]? = some (.cells (hc h (.slice a l.length cap)) 29 (0, 0)) := by rw [← hW]; exact heap_alloc2_old w _ _
 have hgZ : W0.heap[w.heap.size + 1]? = some (.cells (hc Hs.zero (.slice none 0 0)) 29 (0, 0)) := by rw [← hW]; exact heap_alloc2_new w _ _
 have hB : Below w.heap.size w W0 := by rw [← hW]; exact ((Below.refl w.heap.size w).alloc (Nat.le_refl _) _).alloc (by simp) _
 have hp0 := hp.out.below hB
 clear hW
 go_wp2_with (first | go_skip | (refine ld_row 29 _ rfl rfl _ rfl _ _ _ _ hgA Try.underlying29 rfl info30 ?_))
 refine (most_any h l a cap _ hp0).mono ?_
 rintro e w1 ⟨rfl, hb1⟩
 rw [hmn.out]
 have hA1 := hold (hkeep hb1 hgA) (.cells (nc fun b => (n b : Int)) 25)
 have hZ1 := hold (hkeep hb1 hgZ) (.cells (nc fun b => (n b : Int)) 25)
 have hN1 := hnew w1 (.cells (nc fun b => (n b : Int)) 25)
 have hp1 := (hp0.below hb1).alloc (.cells (nc fun b => (n b : Int)) 25)
 have hB0 : Below w.heap.size w w1 := hB.trans (hb1.mono hB.size)
 have hB1 := hB0.alloc hB0.size (.cells (nc fun b => (n b : Int)) 25)
 clear hgA hgZ hB hp0 hb1 hB0
 replace hA1 := Lib.hid hA1
 replace hZ1 := Lib.hid hZ1
 replace hN1 := Lib.hid hN1
 go_upto_region 2 with (first | go_skip | (refine st_new 25 _ _ rfl _ 25 _ rfl rfl rfl (nc fun b => (n b : Int)) rfl info26 rfl (nc_one _) ?_))
 replace hA1 := hA1.out
 replace hZ1 := hZ1.out
 replace hN1 := hN1.out
 generalize hW : w1.alloc (.cells (nc fun b => (n b : Int)) 25) = W1 at *
 generalize hC0 : w1.heap.size = bn at *
 clear hW hC0
 go_wp2_with (first | go_skip | (refine ld_row 29 _ rfl rfl _ rfl _ _ _ _ hA1 Try.underlying29 rfl info30 ?_))
 refine (queues_any h l a cap _ hp1).mono ?_
 rintro e w2 ⟨⟨q, xs, rfl, hqs⟩, hb2⟩
 have hq : ∀ b : Nat, b < 4 → IsQueue l (b : Int) (xs b) := fun b hb => (hqs b hb).1
 have hqw : ∀ b : Nat, b < 4 → OwnInts (w2.alloc (.cells (qc q) 78)) W1.heap.size (q b) (nats (xs b)) := fun b hb => (hqs b hb).2.alloc _
 have hone : (qc q).all (·.oneCell') = true := qc_one fun b hb => (hqs b hb).2.one
 have hA := hold (hkeep hb2 hA1) (.cells (qc q) 78)
 have hZ := hold (hkeep hb2 hZ1) (.cells (qc q) 78)
 have hN := hold (hkeep hb2 hN1) (.cells (qc q) 78)
 have hL := hnew w2 (.cells (qc q) 78)
 have hpW := (hp1.below hb2).alloc (.cells (qc q) 78)
 have hB2 : Below w.heap.size w w2 := hB1.trans (hb2.mono hB1.size)
 have hBW := hB2.alloc hB2.size (.cells (qc q) 78)
 have hzw : w.heap.size + 1 < W1.heap.size := hlt hZ1
 have hnb : bn ≠ w.heap.size := fun e => by rw [e, hA1] at hN1; simp at hN1
 have hbw2 : W1.heap.size ≤ w2.heap.size := hb2.size
 clear hA1 hZ1 hN1 hp1 hb2 hB1 hB2
 replace hqs := Lib.hid hqs
 replace hq := Lib.hid hq
 replace hqw := Lib.hid hqw
 replace hA := Lib.hid hA
 replace hZ := Lib.hid hZ
 replace hN := Lib.hid hN
 replace hL := Lib.hid hL
 go_upto_region 4 with (first | go_skip | (refine st_new 78 _ _ rfl _ 78 _ rfl rfl rfl (qc q) rfl info93 rfl hone ?_))
 replace hA := hA.out
 replace hZ := hZ.out
 replace hN := hN.out
 replace hL := hL.out
 replace hqw := hqw.out
 generalize hW : w2.alloc (.cells (qc q) 78) = W at *
 generalize hC0 : w2.heap.size = bl at *
 clear hW hC0
 have hblt : bl < W.heap.size := hlt hL
 have hbnt : bn < W.heap.size := hlt hN
 have hlb : bl ≠ w.heap.size := by omega
 have hle : ∀ b : Nat, b < 4 → n b ≤ (xs b).length := fun b hb => by rw [← hn.out]; exact mostC_le hb (hq.out b hb)
 have hlist : ∀ m : Nat, m < 4 → ∃ al cl, q m = .slice al (xs m).length cl ∧ IntsAt W al cl (nats (xs m)) ∧ (0 < (nats (xs m)).length → ∀ b' off s, al = some ⟨b', off, s⟩ → b' ≠ w.heap.size) := fun b hb => by
  obtain ⟨al, cl, e, hi, hbb⟩ := (hqw b hb).at_
  rw [nats_len] at e
  exact ⟨al, cl, e, hi, fun _ b' off s e' => by have := hbb b' off s e'; omega⟩
 obtain ⟨S, hS⟩ : ∃ S : St, (⟨h, l, []⟩ : St) = S := ⟨_, rfl⟩
 have hSl : S.l = l := by rw [← hS]
 have hsw0 : SwAt a0 w S W (.slice none 0 0) := by
  rw [← hS]
  exact ⟨⟨a, cap, hA, hpW, fun hl b off s e => by have := hpl.out b off s e hl; exact ⟨by omega, by omega, by simp [Value.ownBlock]⟩⟩, hZ, OwnInts.nil _ _, hBW, fun a' cap' hh => by obtain rfl := hc_slice_inj (hA.symm.trans hh); exact fun b off s e => .inl ⟨off, s, ea0.out.trans e⟩⟩
 have hfin := untie_eq (h := h) (l := l) hq.out
 rw [hn.out, hS, hF.out] at hfin
 clear hqw hqs hpW hBW hA hZ
 replace hS := Lib.hid hS
 replace hSl := Lib.hid hSl
 replace hfin := Lib.hid hfin
 replace hsw0 := Lib.hid hsw0
 replace hle := Lib.hid hle
 replace hlist := Lib.hid hlist
 replace hN := Lib.hid hN
 replace hL := Lib.hid hL
 go_wp2_with fail
 go_loopg [5, 14] 4 (fun g s5 s14 wr => ∃ m : Nat, m ≤ 4 ∧ g = 4 - m ∧ s14 = .int .i64 m ∧ SwAt a0 w (settleAll (fst4 xs n m) S) wr s5 ∧ W.grownBy wr (some w.heap.size) ∧ ∀ x, s5.ownBlock = some x → W.heap.size ≤ x)
 case atStart => exact ⟨0, by omega, rfl, rfl, hsw0.out, grown_refl _ _, fun x hx => by simp [Value.ownBlock] at hx⟩
 case round =>
  clear hsw0
  obtain ⟨m, hm, rfl, rfl, hsw, hK, hd⟩ := hrel
  replace hsw := Lib.hid hsw
  replace hd := Lib.hid hd
  by_cases h4 : m < 4
  ·have h4d : decide ((m : Int) < 4) = true := decide_eq_true (by omega)
   have hm0 : (m : Int) < 4 := by omega
   obtain ⟨al, cl, eq, hil, hila⟩ := hlist.out m h4
   have hnm := hle.out m h4
   have hleq := hil.le
   have hcm := hil.capm
   rw [nats_len] at hleq
   have hLr := (hK.block bl hblt (by simpa using hlb)).trans hL.out
   have hNr := (hK.block bn hbnt (by simpa using hnb)).trans hN.out
   have cL : wr.cell? ⟨bl, m, none⟩ = some (.slice al (xs m).length cl) := by rw [cells_at hLr, qc_get q m h4, eq]
   have cN : wr.cell? ⟨bn, m, none⟩ = some (.int .i64 (n m : Int)) := by rw [cells_at hNr, nc_get _ m h4]
   have hn0 : (0 : Int) ≤ (n m : Int) := by omega
   have hnc : (n m : Int) ≤ (cl : Int) := by omega
   have hclm : (cl : Int) ≤ 9223372036854775807 := by unfold maxLen at hcm; omega
   have hrow : 0 < n m → ∃ b o, al = some ⟨b, o, none⟩ ∧ b < W.heap.size ∧ b ≠ w.heap.size ∧ ∀ j i : Nat, (xs m)[j]? = some i → W.cell? ⟨b, o + j, none⟩ = some (.int .i64 (i : Int)) := fun h0 => by
    obtain ⟨b, o, e3, hb, hc⟩ := hil.row (by rw [nats_len]; omega)
    exact ⟨b, o, e3, hb, hila (by rw [nats_len]; omega) b o none e3, fun j i hj => hc j i (by simp [nats, hj])⟩
   have hnil : al = none → n m = 0 := fun e => by have := hil.nil0 e; omega
   have hswn : ∀ q, SwAt a0 w (settleAll (fst4 xs n m) S) (wr.drewN q) u5 := fun q => hsw.out.later (below_drewN (Below.refl _ _) q)
   have hKn : ∀ q, W.grownBy (wr.drewN q) (some w.heap.size) := fun q => grown_below hK (below_drewN (Below.refl _ _) q)
   clear hLr hNr
   replace eq := Lib.hid eq
   replace hil := Lib.hid hil
   replace hila := Lib.hid hila
   replace hrow := Lib.hid hrow
   replace hnil := Lib.hid hnil
   replace hswn := Lib.hid hswn
   replace hKn := Lib.hid hKn
   go_upto_region 7 with fail
   go_cut [23, 24, 25] (fun s23 s24 s25 wx => s24 = .int .i64 (n m : Int) ∧ s25 = .int .i64 0 ∧ (0 < n m → ∃ b o c, s23 = .slice (some ⟨b, o, none⟩) (n m) c ∧ b < W.heap.size ∧ b ≠ w.heap.size ∧ ∀ j i : Nat, (xs m)[j]? = some i → W.cell? ⟨b, o + j, none⟩ = some (.int .i64 (i : Int))) ∧ SwAt a0 w (settleAll (fst4 xs n m) S) wx u5 ∧ W.grownBy wx (some w.heap.size))
   case first =>
    cases al with
    | none =>
     obtain h0 := hnil.out rfl
     have hcl0 : cl = 0 := hil.out.nil0 rfl
     have hl0 : (xs m).length = 0 := by omega
     rw [h0] at cN
     rw [hl0] at cL
     subst hcl0
     clear hn0 hnc hnm hleq
     go_big_quiet (fail)
     go_wp2_with fail
     go_meet
     case rel => exact ⟨by rw [h0]; rfl, rfl, fun h => by omega, hswn.out _, hKn.out _⟩
    | some ad =>
     go_big_quiet (fail)
     go_wp2_with fail
     go_meet
     case rel =>
      exact ⟨rfl, rfl, fun h => by
       obtain ⟨b, o, e, hb, hne, hc⟩ := hrow.out h
       cases e
       exact ⟨b, o, _, rfl, hb, hne, hc⟩, hswn.out _, hKn.out _⟩
   case rest =>
    clear cL cN hK hsw hswn hKn
    obtain ⟨rfl, rfl, hls, hsw, hK⟩ := hcut
    replace hls := Lib.hid hls
    replace hsw := Lib.hid hsw
    have hnm0 : (n m : Int) ≤ 9223372036854775807 := by omega
    go_wp2_with fail
    go_loopg [5, 25] (n m) (fun g s5 s25 wx => ∃ j : Nat, j ≤ n m ∧ g = n m - j ∧ s25 = .int .i64 j ∧ SwAt a0 w (settleAll (fst4 xs n m ++ (xs m).take j) S) wx s5 ∧ W.grownBy wx (some w.heap.size) ∧ ∀ x, s5.ownBlock = some x → W.heap.size ≤ x)
    case atStart => exact ⟨0, by omega, rfl, rfl, by simpa using hsw.out, hK, hd.out⟩
    case round =>
     clear hsw hK hd
     obtain ⟨j, hj, rfl, rfl, hsw, hK, hd⟩ := hrel
     by_cases h6 : j < n m
     ·obtain ⟨b, o, c, rfl, hbl, hbb, hcc⟩ := hls.out (by omega)
      obtain ⟨i, hji⟩ : ∃ i, (xs m)[j]? = some i := ⟨(xs m)[j], List.getElem?_eq_getElem (by omega)⟩
      have hgd := hpos.out m (by omega)
      have hlen := hgd.len
      have hcell := (World.cell?_of_block (hK.block b hbl (by simpa using hbb))).trans (hcc j i hji)
      have hwk := wk_part hgd (n := n) hq.out m h4 j (by omega) (wk_fst4 hgd (n := n) hq.out m (by omega))
      have hwt := next_waits (h := h) (n := n) hq.out h4 hji
      have hnx := settleAll_next (fst4 xs n m) (xs m) j i S hji
      rw [hS.out] at hwk hwt
      obtain ⟨T, hT⟩ : ∃ T, settleAll (fst4 xs n m ++ (xs m).take j) S = T := ⟨_, rfl⟩
      rw [hT] at hsw hwk hwt hnx
      have hroom := hwk.room (by rw [hSl.out]; exact hlen)
      have hdl : T.d.length ≤ 24 := by have := hwk.few; rw [hSl.out] at this; omega
      have hdn : nats (T.settle i).d = nats T.d ++ [(i : Int)] := by simp [nats, St.settle]
      have hsw0 := Lib.hid hsw
      obtain ⟨⟨a1, cap1, hA, hpx, hap⟩, hZ, hown, hbx, hsrc⟩ := hsw
      have hsr := hsrc _ _ hA
      replace hsr := Lib.hid hsr
      clear hsrc
      have hj2 : (j : Int) < (n m : Int) := by omega
      have h6d : decide ((j : Int) < (n m : Int)) = true := decide_eq_true hj2
      have cS := settle_yes T.h T.l a1 cap1 i wr hpx hroom hwt.1 hwt.2
      unfold SettlePost at cS
      rw [settled_len] at cS
      have hzl := hlt hZ
      clear hcc hgd
      replace hji := Lib.hid hji
      replace hwk := Lib.hid hwk
      replace hwt := Lib.hid hwt
      replace hnx := Lib.hid hnx
      replace hT := Lib.hid hT
      replace hdn := Lib.hid hdn
      replace hpx := Lib.hid hpx
      replace hap := Lib.hid hap
      replace hZ := Lib.hid hZ
      replace hown := Lib.hid hown
      replace hd := Lib.hid hd
      replace cS := Lib.hid cS
      go_wp2_with (first | go_skip | (refine ld_row 29 _ rfl rfl _ rfl _ _ _ _ hA Try.underlying29 rfl info30 ?_))
      refine cS.out.mono ?_
      rintro e w3 ⟨⟨a2, cap2, rfl, hp2, hf2⟩, hb3⟩
      have hIX := Lib.hid (((Below.refl wr.heap.size wr).trans hb3).alloc hb3.size (.cells #[.int .i64 (i : Int)] 3))
      have hpX := Lib.hid (hp2.alloc (.cells #[.int .i64 (i : Int)] 3))
      have hoX := Lib.hid (hown.out.below hIX.out)
      have hA3 := hkeep hIX.out hA
      replace hA3 := Lib.hid hA3
      replace hp2 := Lib.hid hp2
      have hb3s := hb3.size
      go_wp2_with (first | go_skip | (at_builtin; refine wpList_append_fresh _ rfl _ _ 42 rfl (w.heap.size + 2) 3 i0 z 1 8 Try.underlying42 hi hz0 hz1 hz2 hz3 (by decide) u5 (nats T.d).length (icells (nats T.d)) rfl hoX.out.1 ⟨w3.heap.size, 0, none⟩ 1 1 [.int .i64 (i : Int)] rfl rfl ?c1 ?c2 ?c3 ?c4 ?c5 ?_))
      case c1 => exact cell_new1 w3 _ _
      case c2 => intro u hu; obtain rfl := List.mem_singleton.1 hu; rfl
      case c3 => rw [nats_len]; simp only [maxLen]; omega
      case c4 => rw [nats_len]; omega
      case c5 => rw [alloc_sz]; omega
      intro v' w4 hownv hgr hv
      have hO3 : OwnInts w4 (w.heap.size + 2) v' (nats (T.settle i).d) := by
       rw [hdn.out]
       exact OwnInts.snoc rfl (by rw [nats_len]; omega) hownv
      have hA4 := (hgr.block _ (hlt hA3.out) (fun e => by have := hown.out.own e.symm; omega)).trans hA3.out
      replace hownv := Lib.hid hownv
      replace hgr := Lib.hid hgr
      have hv2 : ∀ x, v'.ownBlock = some x → u5.ownBlock = some x ∨ (w3.alloc (.cells #[.int .i64 (i : Int)] 3)).heap.size ≤ x := fun x hx => by rw [alloc_sz]; simpa using hv x hx
      clear hv
      replace hv2 := Lib.hid hv2
      replace hO3 := Lib.hid hO3
      go_wp2_with (first | go_skip | (refine st_row 29 _ _ rfl rfl _ rfl _ rfl _ _ hA4 info30 rfl (hc_one _ _ rfl) ?_; intro w5 hr5 hgr5 hsz5))
      obtain ⟨hsw5, _⟩ := SwAt.step (i := i) hsw0.out (lsNone w u5 wr) hIX.out hpX.out hf2 hgr.out hO3.out hv2.out hgr5 hr5
      obtain ⟨hK5, hd5⟩ := kept_step hK hd.out hIX.out hgr.out hv2.out hgr5
      go_roundg (n m - (j + 1))
      case measure => omega
      case rel => exact ⟨j + 1, by omega, rfl, by go_num, by rw [hnx.out]; exact hsw5, hK5, hd5⟩
     ·have h6d : decide ((j : Int) < (n m : Int)) = false := decide_eq_false (by omega)
      have hjn : j = n m := by omega
      rw [hjn] at hsw
      replace hjn := Lib.hid hjn
      replace hsw := Lib.hid hsw
      replace hd := Lib.hid hd
      go_wp2_with fail
      go_roundg (4 - (m + 1))
      case measure => omega
      case rel => exact ⟨m + 1, by omega, rfl, by go_num, hsw.out, hK, hd.out⟩
  ·obtain rfl : m = 4 := by omega
   have hsw := hsw.out
   rw [hfin.out] at hsw
   obtain ⟨⟨a1, cap1, hA, hpx, hap⟩, hZ, hown, hbx, hsrc⟩ := hsw
   have hsr := hsrc _ _ hA
   replace hsr := Lib.hid hsr
   clear hsrc
   have hl1 := hlt hZ
   replace hpx := Lib.hid hpx
   replace hown := Lib.hid hown
   replace hd := Lib.hid hd
   go_wp2_with (first | go_skip | (refine ld_row 29 _ rfl rfl _ rfl _ _ _ _ hA Try.underlying29 rfl info30 ?_) | (refine st_row 29 _ _ rfl rfl _ rfl _ rfl _ _ hZ info30 rfl (hc_one _ _ rfl) ?_; intro w5 hr5 hgr5 hsz5))
   refine bodyPost_ret (results_house2 rfl _ _ _ _ _ rfl hr5) rfl ⟨⟨a1, cap1, u5, rfl, ?_, ?_, by rw [← ea0.out]; exact hsr.out, fun hl b off s e => (hap hl b off s e).2.2⟩, ?_⟩
   ·exact hpx.out.grownO hgr5 hap
   ·exact (hown.out.grownP hgr5 (by omega)).mono (by omega)
   ·exact hbx.grown hgr5 hbx.size fun k hk => by cases hk; omega
end Go.Proofs.Ytggfdkkhlokmlab

namespace Go.Proofs.Ytggfdkkhlokmlab
open Go.RowKit
attribute [local go_sem] hc_pays hc_next hc_size qc_size nc_size
/-- May each bank do so many of its first payments, all at once? -/
structure TogP (h : Hs) (l : List Pay) (n : Nat → Int) : Prop where
 good : GoodP h l
 pos : ∀ b : Nat, b < 4 → 0 ≤ n b
 tog : Tog h l (fun b => (n b.toNat).toNat)
open Classical in
noncomputable def togB (h : Hs) (l : List Pay) (n : Nat → Int) : Bool := decide (TogP h l n)
theorem togB_no {h : Hs} {l : List Pay} {n : Nat → Int} (hn : ¬ TogP h l n) : togB h l n = false := by simp [togB, hn]
theorem togB_yes {h : Hs} {l : List Pay} {n : Nat → Int} (hn : TogP h l n) : togB h l n = true := by simp [togB, hn]
theorem togB_true {h : Hs} {l : List Pay} {n : Nat → Int} (hn : togB h l n = true) : TogP h l n := by simpa [togB] using hn
end Go.Proofs.Ytggfdkkhlokmlab


