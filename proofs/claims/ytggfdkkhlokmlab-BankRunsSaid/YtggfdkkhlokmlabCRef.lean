/- The reference's AllTogether: the walk. -/
import Derived.Test.YtggfdkkhlokmlabCUnt
import Derived.Test.YtggfdkkhlokmlabCSwp
set_option linter.unusedSimpArgs false
namespace Go.Proofs.Ytggfdkkhlokmlab
open Go.RowKit
attribute [local go_sem] hc_has hc_cr hc_sent hc_lim hc_pays hc_next hc_size nc_size pc_0 pc_1 pc_2 pc_3 pc_4 pc_5
attribute [local go_sem low] hc_hasN hc_crN hc_sentN hc_limN
/-- As wpG_first, the place of its value typed out. -/
theorem wpG_at {P : Program} {ops : Array Oper} {Q : Exit → Act → World → Prop} {md : Region.Mode} {I : World → Prop} {g : Nat} {i fuel : Nat} (d : Nat) {oi : Oper} {v : Value} {listed : Array Bool} {a : Act} {w : World} (c : List Nat) (hi : ops[i]? = some oi) (hd : oi.dst = some d) (hs : Region.noSelect ops = true) (hf : Region.free md ops listed i = true) (hr : (Region.ready md ops listed).contains i = true)
  (hch : (chainB md ops g c && c.contains i && (g != i) && closedB md ops listed && decide (g < listed.size)) = true) (hQ : ∀ c a w, Q (.panic c) (a.put (some d) v) w → Q (.panic c) a w) (hI : I w) (hy : YieldsIf P ops I oi v a)
  (h : wpG P md ops Q I g fuel (listed.setIfInBounds i true) (a.put (some d) v) w) : wpG P md ops Q I g (fuel + 1) listed a w :=
 wpG_first c hi hs hf hr hch (by rw [hd]; exact hQ) hI hy (by rw [hd]; exact h)
set_option maxRecDepth 100000 in
set_option maxHeartbeats 4000000 in
theorem allTog_bad (h : Hs) (l : List Pay) (a : Option Addr) (cap : Nat) (n : Nat → Int) (w : World) (hp : PaysAt w a cap l) (h1 : goodB h l = false) :
  Calls Try.prog 90 #[.agg (hc h (.slice a l.length cap)), .agg (nc n)] w fun e w' => e = .returned (.bool (togB h l n)) ∧ Below w.heap.size w w' := by
 have fin : togB h l n = false := togB_no fun t => goodB_false h1 t.good
 have hg := heap_alloc2_old w (.cells (hc h (.slice a l.length cap)) 29) (.cells (nc n) 25)
 have hB0 := ((Below.refl w.heap.size w).alloc (Nat.le_refl _) (.cells (hc h (.slice a l.length cap)) 29)).alloc (by simp) (.cells (nc n) 25)
 have hp0 := hp.below hB0
 replace fin := Lib.hid fin
 replace h1 := Lib.hid h1
 go_enter Try.func90, Try.ntmps90
 go_wp2_with (first | go_skip | (refine ld_row 29 _ rfl rfl _ rfl _ _ _ _ hg Try.underlying29 rfl info30 ?_) | (go_at_call 64; refine (isHouse_any h l a cap _ hp0).mono ?_; rintro e w1 ⟨rfl, hb1⟩; rw [h1.out]))
 go_ret
 exact ⟨by rw [fin.out]; rfl, bstep hB0 hB0.size hb1⟩
set_option maxRecDepth 100000 in
set_option maxHeartbeats 20000000 in
theorem allTog_good (h : Hs) (l : List Pay) (a : Option Addr) (cap : Nat) (n : Nat → Int) (w : World) (hp : PaysAt w a cap l) (hgd : GoodP h l) :
  Calls Try.prog 90 #[.agg (hc h (.slice a l.length cap)), .agg (nc n)] w fun e w' => e = .returned (.bool (togB h l n)) ∧ Below w.heap.size w w' := by
 have hgb := goodB_yes hgd
 have hlen := hgd.len
 have hnd := hgd.nodup
 have hnear := hgd.near
 have hml : (l.length : Int) ≤ 9223372036854775807 := by omega
 have hg := heap_alloc2_old w (.cells (hc h (.slice a l.length cap)) 29) (.cells (nc n) 25)
 have hgN := heap_alloc2_new w (.cells (hc h (.slice a l.length cap)) 29) (.cells (nc n) 25)
 have hB0 := ((Below.refl w.heap.size w).alloc (Nat.le_refl _) (.cells (hc h (.slice a l.length cap)) 29)).alloc (by simp) (.cells (nc n) 25)
 have hp0 := hp.below hB0
 have hroom : ∀ (N : Nat → Nat) m j, m < 4 → (moves l (fst4 (fun b => ofL l (b : Int)) N m ++ (ofL l (m : Int)).take j) h).Room := fun N m j hm => by
  have h1 := Near.moves (l := l) (fst4 (fun b => ofL l (b : Int)) N m ++ (ofL l (m : Int)).take j) hnear (by omega)
  refine h1.room ?_
  have h2 := fst4_len (xs := fun b => ofL l (b : Int)) (n := N) (N := l.length) (fun b _ => ofL_len l _) m (by omega)
  have h3 := ofL_len l (m : Int)
  have h5 : m * l.length ≤ 4 * l.length := Nat.mul_le_mul_right _ (by omega)
  rw [List.length_append, List.length_take]
  omega
 obtain ⟨N, hN⟩ : ∃ N : Nat → Nat, (fun b => (n b).toNat) = N := ⟨_, rfl⟩
 replace hgb := Lib.hid hgb
 replace hnd := Lib.hid hnd
 replace hnear := Lib.hid hnear
 replace hroom := Lib.hid hroom
 replace hN := Lib.hid hN
 replace hp := Lib.hid hp
 replace hgd := Lib.hid hgd
 go_enter Try.func90, Try.ntmps90
 go_upto_region 3 with (first | go_skip | (refine ld_row 29 _ rfl rfl _ rfl _ _ _ _ hg Try.underlying29 rfl info30 ?_) | (go_at_call 64; refine (isHouse_any h l a cap _ hp0).mono ?_; rintro e w1 ⟨rfl, hb1⟩; rw [hgb.out]))
 have hA1 := hkeep hb1 hg
 have hA2 := hold hA1 (.cells (hc h (.slice a l.length cap)) 29)
 have hN2 := hold (hkeep hb1 hgN) (.cells (hc h (.slice a l.length cap)) 29)
 have hX2 := hnew w1 (.cells (hc h (.slice a l.length cap)) 29)
 have hB1 := bstep hB0 hB0.size hb1
 have hB2 := hB1.alloc hB1.size (.cells (hc h (.slice a l.length cap)) 29)
 have hwx : w.heap.size + 1 < w1.heap.size := hlt (hkeep hb1 hgN)
 clear hg hgN hB0 hp0 hb1 hB1
 replace hA2 := Lib.hid hA2
 replace hN2 := Lib.hid hN2
 replace hX2 := Lib.hid hX2
 go_upto_region 4 with (first | go_skip | (refine ld_row 29 _ rfl rfl _ rfl _ _ _ _ hA1 Try.underlying29 rfl info30 ?_) | (refine st_new 29 _ _ rfl _ 29 _ rfl rfl rfl (hc h (.slice a l.length cap)) rfl info30 rfl (hc_one _ _ rfl) ?_))
 clear hA1
 replace hA2 := hA2.out
 replace hN2 := hN2.out
 replace hX2 := hX2.out
 generalize hW : w1.alloc (.cells (hc h (.slice a l.length cap)) 29) = W at *
 generalize hC0 : w1.heap.size = bx at *
 clear hW hC0
 go_wp2_with fail
 go_loopg [16] 4 (fun g s16 wx => ∃ m : Nat, m ≤ 4 ∧ g = 4 - m ∧ s16 = .int .i64 m ∧ (∀ b : Nat, b < m → 0 ≤ n b ∧ n b ≤ ((ofL l (b : Int)).length : Int)) ∧ wx.heap[w.heap.size]? = some (.cells (hc h (.slice a l.length cap)) 29 (0, 0)) ∧ wx.heap[w.heap.size + 1]? = some (.cells (nc n) 25 (0, 0)) ∧ wx.heap[bx]? = some (.cells (hc (moves l (fst4 (fun b => ofL l (b : Int)) N m) h) (.slice a l.length cap)) 29 (0, 0)) ∧ Below w.heap.size w wx)
 case atStart => exact ⟨0, by omega, rfl, rfl, fun b hb => by omega, hA2, hN2, hX2, hB2⟩
 case round =>
  clear hA2 hN2 hX2 hB2
  obtain ⟨m, hm, rfl, rfl, hok, hA, hNr, hX, hB⟩ := hrel
  replace hok := Lib.hid hok
  by_cases h4 : m < 4
  ·have h4d : decide ((m : Int) < 4) = true := decide_eq_true (by omega)
   have hm0 : (m : Int) < 4 := by omega
   obtain ⟨v, hv⟩ : ∃ v, n m = v := ⟨_, rfl⟩
   have hpr := hp.out.below hB
   go_upto_region 8 with (first | go_skip | (refine ld_row 29 _ rfl rfl _ rfl _ _ _ _ hA Try.underlying29 rfl info30 ?_) | (go_at_call 82; refine (queueOf_any h l a cap (m : Int) _ hpr).mono ?_; rintro e w2 ⟨⟨u, ys, rfl, hq, hown⟩, hb2⟩))
   obtain rfl := hq.eq hnd.out
   obtain ⟨al, cl, rfl, hil, hila⟩ := hown.at_
   rw [nats_len]
   have hbxl := hlt hX
   have hA3 := hkeep hb2 hA
   have hN3 := hkeep hb2 hNr
   have hX3 := hkeep hb2 hX
   have hB3 := bstep hB hB.size hb2
   have cN : w2.cell? ⟨w.heap.size + 1, m, none⟩ = some (.int .i64 v) := by rw [cells_at hN3, nc_get _ m h4, hv]
   have hlb : 0 < (nats (ofL l (m : Int))).length → ∀ b' off s, al = some ⟨b', off, s⟩ → b' ≠ bx := fun _ b' off s e => by have := hila b' off s e; omega
   clear hA hNr hX hB hb2 hown hq hpr
   replace hv := Lib.hid hv
   replace hlb := Lib.hid hlb
   replace hila := Lib.hid hila
   cases hsm : sm 0 v ((ofL l (m : Int)).length : Int)
   ·have fin : togB h l n = false := togB_no fun t => by
     have h5 := t.pos m h4
     have h6 := t.tog.le (m : Int) (by omega) (by omega)
     simp only [Int.toNat_natCast] at h6
     have h7 := sm_false hsm
     rw [hv.out] at h5 h6
     omega
    replace fin := Lib.hid fin
    replace hsm := Lib.hid hsm
    go_wp2_with (go_at_call 59; refine (within_any _ _ _ _).mono ?_; rintro e w' ⟨rfl, rfl⟩; rw [hsm.out])
    go_ret
    exact ⟨by rw [fin.out]; rfl, hB3⟩
   ·have hvv := sm_true hsm
    obtain ⟨k, rfl⟩ : ∃ k : Nat, v = k := ⟨v.toNat, by omega⟩
    have hNk : N m = k := by rw [← hN.out]; simp only [hv.out]; simp
    have hkm : (k : Int) ≤ 9223372036854775807 := by have := ofL_len l (m : Int); omega
    replace hsm := Lib.hid hsm
    replace hvv := Lib.hid hvv
    replace hNk := Lib.hid hNk
    replace hA3 := Lib.hid hA3
    replace hX3 := Lib.hid hX3
    replace hN3 := Lib.hid hN3
    go_wp2_with (go_at_call 59; refine (within_any _ _ _ _).mono ?_; rintro e w' ⟨rfl, rfl⟩; rw [hsm.out])
    clear cN
    go_loopg [32] k (fun g s32 wx => ∃ j : Nat, j ≤ k ∧ g = k - j ∧ s32 = .int .i64 j ∧ IntsAt wx al cl (nats (ofL l (m : Int))) ∧ wx.heap[w.heap.size]? = some (.cells (hc h (.slice a l.length cap)) 29 (0, 0)) ∧ wx.heap[w.heap.size + 1]? = some (.cells (nc n) 25 (0, 0)) ∧ wx.heap[bx]? = some (.cells (hc (moves l (fst4 (fun b => ofL l (b : Int)) N m ++ (ofL l (m : Int)).take j) h) (.slice a l.length cap)) 29 (0, 0)) ∧ Below w.heap.size w wx)
    case atStart => exact ⟨0, by omega, rfl, rfl, hil, hA3.out, hN3.out, by simpa using hX3.out, hB3⟩
    case round =>
     clear hil hA3 hN3 hX3 hB3
     obtain ⟨j, hj, rfl, rfl, hil, hA, hNr, hX, hB⟩ := hrel
     by_cases h6 : j < k
     ·obtain ⟨i, hji⟩ : ∃ i, (ofL l (m : Int))[j]? = some i := ⟨(ofL l (m : Int))[j]'(by have := hvv.out; omega), List.getElem?_eq_getElem (by have := hvv.out; omega)⟩
      obtain ⟨hiL, hst, hfr⟩ := ofL_mem.1 (List.mem_of_getElem? hji)
      have hpi := payAt_get hiL
      have hsn := moves_snoc l (fst4 (fun b => ofL l (b : Int)) N m) (ofL l (m : Int)) j i h hji
      have hrj := hroom.out N m j h4
      obtain ⟨p, ep⟩ : ∃ p, payAt l i = p := ⟨_, rfl⟩
      rw [ep] at hpi hsn hfr
      rw [hfr] at hsn
      obtain ⟨Y, hY⟩ : ∃ Y, moves l (fst4 (fun b => ofL l (b : Int)) N m ++ (ofL l (m : Int)).take j) h = Y := ⟨_, rfl⟩
      rw [hY] at hX hsn hrj
      obtain ⟨bq, oq, rfl, hbq, hcq⟩ := hil.row (by rw [nats_len]; have := hvv.out; omega)
      have hpr := hp.out.below hB
      obtain ⟨bp, op, rfl, hbp, _⟩ := hpr.row (by omega)
      obtain ⟨x0, x1, x2, x3, x4, x5⟩ := hpr.six hpi
      have hqj : (nats (ofL l (m : Int)))[j]? = some (i : Int) := by simp [nats, hji]
      have cq := hcq j i hqj
      have c40 : wr.cell? ⟨w.heap.size, 40, none⟩ = some (.slice (some ⟨bp, op, none⟩) l.length cap) := (cells_at hA 40).trans (hc_pays _ _)
      have hjl : (j : Int) < ((ofL l (m : Int)).length : Int) := by have := hvv.out; omega
      have hiL2 : (i : Int) < (l.length : Int) := by omega
      have h6d : decide ((j : Int) < (k : Int)) = true := decide_eq_true (by omega)
      have hcI : ∀ w', Below wr.heap.size wr w' → w'.cell? ⟨w.heap.size, 40, none⟩ = some (.slice (some ⟨bp, op, none⟩) l.length cap) ∧ w'.cell? ⟨bq, oq + j, none⟩ = some (.int .i64 (i : Int)) ∧ w'.cell? ⟨bp, op + i * 6 + 1, none⟩ = some (.int .i64 p.to) ∧ w'.cell? ⟨bp, op + i * 6 + 2, none⟩ = some (.int .i64 p.amt) := fun w' hb =>
       ⟨(hb.cell (p := ⟨w.heap.size, 40, none⟩) (World.block_lt_of_cell? _ _ c40)).trans c40, (hb.cell (p := ⟨bq, oq + j, none⟩) hbq).trans cq, (hb.cell (p := ⟨bp, _, none⟩) hbp).trans x1, (hb.cell (p := ⟨bp, _, none⟩) hbp).trans x2⟩
      clear x0 x1 x2 x3 x4 x5 cq c40 hcq hpr
      replace hcI := Lib.hid hcI
      replace hji := Lib.hid hji
      replace hst := Lib.hid hst
      replace hfr := Lib.hid hfr
      replace hpi := Lib.hid hpi
      replace ep := Lib.hid ep
      replace hsn := Lib.hid hsn
      replace hY := Lib.hid hY
      replace hqj := Lib.hid hqj
      replace hX := Lib.hid hX
      replace hA := Lib.hid hA
      replace hNr := Lib.hid hNr
      replace hil := Lib.hid hil
      go_upto_region 13 with fail
      refine wpG_start (Below wr.heap.size wr) 20 (by kernel_rfl) ?_
      have hI0 : Below wr.heap.size wr wr.drew := (Below.refl _ _).drew
      refine wpG_at 35 (i := 0) (oi := _) (v := (.agg (hc Y (.slice (some ⟨bp, op, none⟩) l.length cap)))) [0] rfl rfl (by kernel_rfl) (by kernel_rfl) (by kernel_rfl) (by kernel_rfl) (fun _ _ _ h => h) hI0 ?hy0 ?rs0
      case hy0 => exact yields_row 29 _ rfl rfl _ rfl _ _ _ _ (fun w' hb => hkeep hb hX.out) Try.underlying29 rfl info30
      (try simp only [Act.put, List.setIfInBounds_toArray, List.set_cons_succ, List.set_cons_zero])
      refine wpG_at 36 (i := 1) (oi := _) (v := (.int .i64 (m : Int))) [1] rfl rfl (by kernel_rfl) (by kernel_rfl) (by kernel_rfl) (by kernel_rfl) (fun _ _ _ h => h) hI0 ?hy1 ?rs1
      case hy1 => exact Or.inl ⟨by rfl, by intro w' hb; obtain ⟨c1, c2, c3, c4⟩ := hcI.out w' hb; go_simp⟩
      (try simp only [Act.put, List.setIfInBounds_toArray, List.set_cons_succ, List.set_cons_zero])
      refine wpG_at 37 (i := 2) (oi := _) (v := (.pointer (some ⟨w.heap.size, 40, none⟩))) [10, 9, 8, 3, 2] rfl rfl (by kernel_rfl) (by kernel_rfl) (by kernel_rfl) (by kernel_rfl) (fun _ _ _ h => h) hI0 ?hy2 ?rs2
      case hy2 => exact Or.inl ⟨by rfl, by intro w' hb; obtain ⟨c1, c2, c3, c4⟩ := hcI.out w' hb; go_simp⟩
      (try simp only [Act.put, List.setIfInBounds_toArray, List.set_cons_succ, List.set_cons_zero])
      refine wpG_at 38 (i := 3) (oi := _) (v := (.slice (some ⟨bp, op, none⟩) l.length cap)) [10, 9, 8, 3] rfl rfl (by kernel_rfl) (by kernel_rfl) (by kernel_rfl) (by kernel_rfl) (fun _ _ _ h => h) hI0 ?hy3 ?rs3
      case hy3 => exact Or.inl ⟨by rfl, by intro w' hb; obtain ⟨c1, c2, c3, c4⟩ := hcI.out w' hb; go_simp⟩
      (try simp only [Act.put, List.setIfInBounds_toArray, List.set_cons_succ, List.set_cons_zero])
      refine wpG_at 39 (i := 4) (oi := _) (v := (.slice (some ⟨bq, oq, none⟩) (ofL l (m : Int)).length cl)) [10, 9, 8, 7, 6, 4] rfl rfl (by kernel_rfl) (by kernel_rfl) (by kernel_rfl) (by kernel_rfl) (fun _ _ _ h => h) hI0 ?hy4 ?rs4
      case hy4 => exact Or.inl ⟨by rfl, by intro w' hb; obtain ⟨c1, c2, c3, c4⟩ := hcI.out w' hb; go_simp⟩
      (try simp only [Act.put, List.setIfInBounds_toArray, List.set_cons_succ, List.set_cons_zero])
      refine wpG_at 40 (i := 5) (oi := _) (v := (.int .i64 (j : Int))) [10, 9, 8, 7, 6, 5] rfl rfl (by kernel_rfl) (by kernel_rfl) (by kernel_rfl) (by kernel_rfl) (fun _ _ _ h => h) hI0 ?hy5 ?rs5
      case hy5 => exact Or.inl ⟨by rfl, by intro w' hb; obtain ⟨c1, c2, c3, c4⟩ := hcI.out w' hb; go_simp⟩
      (try simp only [Act.put, List.setIfInBounds_toArray, List.set_cons_succ, List.set_cons_zero])
      refine wpG_at 41 (i := 6) (oi := _) (v := (.pointer (some ⟨bq, oq + j, none⟩))) [10, 9, 8, 7, 6] rfl rfl (by kernel_rfl) (by kernel_rfl) (by kernel_rfl) (by kernel_rfl) (fun _ _ _ h => h) hI0 ?hy6 ?rs6
      case hy6 => exact Or.inl ⟨by rfl, by intro w' hb; obtain ⟨c1, c2, c3, c4⟩ := hcI.out w' hb; go_simp⟩
      (try simp only [Act.put, List.setIfInBounds_toArray, List.set_cons_succ, List.set_cons_zero])
      refine wpG_at 42 (i := 7) (oi := _) (v := (.int .i64 (i : Int))) [10, 9, 8, 7] rfl rfl (by kernel_rfl) (by kernel_rfl) (by kernel_rfl) (by kernel_rfl) (fun _ _ _ h => h) hI0 ?hy7 ?rs7
      case hy7 => exact Or.inl ⟨by rfl, by intro w' hb; obtain ⟨c1, c2, c3, c4⟩ := hcI.out w' hb; go_simp⟩
      (try simp only [Act.put, List.setIfInBounds_toArray, List.set_cons_succ, List.set_cons_zero])
      refine wpG_at 43 (i := 8) (oi := _) (v := (.pointer (some ⟨bp, op + i * 6, none⟩))) [10, 9, 8] rfl rfl (by kernel_rfl) (by kernel_rfl) (by kernel_rfl) (by kernel_rfl) (fun _ _ _ h => h) hI0 ?hy8 ?rs8
      case hy8 => exact Or.inl ⟨by rfl, by intro w' hb; obtain ⟨c1, c2, c3, c4⟩ := hcI.out w' hb; go_simp⟩
      (try simp only [Act.put, List.setIfInBounds_toArray, List.set_cons_succ, List.set_cons_zero])
      refine wpG_at 44 (i := 9) (oi := _) (v := (.pointer (some ⟨bp, op + i * 6 + 1, none⟩))) [10, 9] rfl rfl (by kernel_rfl) (by kernel_rfl) (by kernel_rfl) (by kernel_rfl) (fun _ _ _ h => h) hI0 ?hy9 ?rs9
      case hy9 => exact Or.inl ⟨by rfl, by intro w' hb; obtain ⟨c1, c2, c3, c4⟩ := hcI.out w' hb; go_simp⟩
      (try simp only [Act.put, List.setIfInBounds_toArray, List.set_cons_succ, List.set_cons_zero])
      refine wpG_at 45 (i := 10) (oi := _) (v := (.int .i64 p.to)) [10] rfl rfl (by kernel_rfl) (by kernel_rfl) (by kernel_rfl) (by kernel_rfl) (fun _ _ _ h => h) hI0 ?hy10 ?rs10
      case hy10 => exact Or.inl ⟨by rfl, by intro w' hb; obtain ⟨c1, c2, c3, c4⟩ := hcI.out w' hb; go_simp⟩
      (try simp only [Act.put, List.setIfInBounds_toArray, List.set_cons_succ, List.set_cons_zero])
      refine wpG_at 46 (i := 11) (oi := _) (v := (.pointer (some ⟨w.heap.size, 40, none⟩))) [19, 18, 17, 12, 11] rfl rfl (by kernel_rfl) (by kernel_rfl) (by kernel_rfl) (by kernel_rfl) (fun _ _ _ h => h) hI0 ?hy11 ?rs11
      case hy11 => exact Or.inl ⟨by rfl, by intro w' hb; obtain ⟨c1, c2, c3, c4⟩ := hcI.out w' hb; go_simp⟩
      (try simp only [Act.put, List.setIfInBounds_toArray, List.set_cons_succ, List.set_cons_zero])
      refine wpG_at 47 (i := 12) (oi := _) (v := (.slice (some ⟨bp, op, none⟩) l.length cap)) [19, 18, 17, 12] rfl rfl (by kernel_rfl) (by kernel_rfl) (by kernel_rfl) (by kernel_rfl) (fun _ _ _ h => h) hI0 ?hy12 ?rs12
      case hy12 => exact Or.inl ⟨by rfl, by intro w' hb; obtain ⟨c1, c2, c3, c4⟩ := hcI.out w' hb; go_simp⟩
      (try simp only [Act.put, List.setIfInBounds_toArray, List.set_cons_succ, List.set_cons_zero])
      refine wpG_at 48 (i := 13) (oi := _) (v := (.slice (some ⟨bq, oq, none⟩) (ofL l (m : Int)).length cl)) [19, 18, 17, 16, 15, 13] rfl rfl (by kernel_rfl) (by kernel_rfl) (by kernel_rfl) (by kernel_rfl) (fun _ _ _ h => h) hI0 ?hy13 ?rs13
      case hy13 => exact Or.inl ⟨by rfl, by intro w' hb; obtain ⟨c1, c2, c3, c4⟩ := hcI.out w' hb; go_simp⟩
      (try simp only [Act.put, List.setIfInBounds_toArray, List.set_cons_succ, List.set_cons_zero])
      refine wpG_at 49 (i := 14) (oi := _) (v := (.int .i64 (j : Int))) [19, 18, 17, 16, 15, 14] rfl rfl (by kernel_rfl) (by kernel_rfl) (by kernel_rfl) (by kernel_rfl) (fun _ _ _ h => h) hI0 ?hy14 ?rs14
      case hy14 => exact Or.inl ⟨by rfl, by intro w' hb; obtain ⟨c1, c2, c3, c4⟩ := hcI.out w' hb; go_simp⟩
      (try simp only [Act.put, List.setIfInBounds_toArray, List.set_cons_succ, List.set_cons_zero])
      refine wpG_at 50 (i := 15) (oi := _) (v := (.pointer (some ⟨bq, oq + j, none⟩))) [19, 18, 17, 16, 15] rfl rfl (by kernel_rfl) (by kernel_rfl) (by kernel_rfl) (by kernel_rfl) (fun _ _ _ h => h) hI0 ?hy15 ?rs15
      case hy15 => exact Or.inl ⟨by rfl, by intro w' hb; obtain ⟨c1, c2, c3, c4⟩ := hcI.out w' hb; go_simp⟩
      (try simp only [Act.put, List.setIfInBounds_toArray, List.set_cons_succ, List.set_cons_zero])
      refine wpG_at 51 (i := 16) (oi := _) (v := (.int .i64 (i : Int))) [19, 18, 17, 16] rfl rfl (by kernel_rfl) (by kernel_rfl) (by kernel_rfl) (by kernel_rfl) (fun _ _ _ h => h) hI0 ?hy16 ?rs16
      case hy16 => exact Or.inl ⟨by rfl, by intro w' hb; obtain ⟨c1, c2, c3, c4⟩ := hcI.out w' hb; go_simp⟩
      (try simp only [Act.put, List.setIfInBounds_toArray, List.set_cons_succ, List.set_cons_zero])
      refine wpG_at 52 (i := 17) (oi := _) (v := (.pointer (some ⟨bp, op + i * 6, none⟩))) [19, 18, 17] rfl rfl (by kernel_rfl) (by kernel_rfl) (by kernel_rfl) (by kernel_rfl) (fun _ _ _ h => h) hI0 ?hy17 ?rs17
      case hy17 => exact Or.inl ⟨by rfl, by intro w' hb; obtain ⟨c1, c2, c3, c4⟩ := hcI.out w' hb; go_simp⟩
      (try simp only [Act.put, List.setIfInBounds_toArray, List.set_cons_succ, List.set_cons_zero])
      refine wpG_at 53 (i := 18) (oi := _) (v := (.pointer (some ⟨bp, op + i * 6 + 2, none⟩))) [19, 18] rfl rfl (by kernel_rfl) (by kernel_rfl) (by kernel_rfl) (by kernel_rfl) (fun _ _ _ h => h) hI0 ?hy18 ?rs18
      case hy18 => exact Or.inl ⟨by rfl, by intro w' hb; obtain ⟨c1, c2, c3, c4⟩ := hcI.out w' hb; go_simp⟩
      (try simp only [Act.put, List.setIfInBounds_toArray, List.set_cons_succ, List.set_cons_zero])
      refine wpG_at 54 (i := 19) (oi := _) (v := (.int .i64 p.amt)) [19] rfl rfl (by kernel_rfl) (by kernel_rfl) (by kernel_rfl) (by kernel_rfl) (fun _ _ _ h => h) hI0 ?hy19 ?rs19
      case hy19 => exact Or.inl ⟨by rfl, by intro w' hb; obtain ⟨c1, c2, c3, c4⟩ := hcI.out w' hb; go_simp⟩
      (try simp only [Act.put, List.setIfInBounds_toArray, List.set_cons_succ, List.set_cons_zero])
      refine wpG_drop 20 rfl (by kernel_rfl) ?_
      simp only [List.drop_succ_cons, List.drop_zero]
      go_wp2_with (first | go_skip | (go_at_call 91; refine (moveSum_any Y _ (m : Int) p.to p.amt _ hrj rfl).mono ?_; rintro e w4 ⟨rfl, hb4⟩) | (refine st_row 29 _ _ rfl rfl _ rfl _ rfl _ _ (hkeep (hI0.trans (hb4.mono hI0.size)) hX.out) info30 rfl (hc_one _ _ rfl) ?_; intro w5 hr5 hgr5 hsz5))
      have hI4 := hI0.trans (hb4.mono hI0.size)
      have hB4 := bstep hB hB.size hI4
      go_roundg (k - (j + 1))
      case measure => omega
      case rel =>
       refine ⟨j + 1, by omega, rfl, by go_num, (hil.out.below hI4).past hgr5 hlb.out, ?_, ?_, by rw [hsn.out]; exact hr5, ?_⟩
       ·exact (hgr5.block _ (hlt (hkeep hI4 hA.out)) (by simp; omega)).trans (hkeep hI4 hA.out)
       ·exact (hgr5.block _ (hlt (hkeep hI4 hNr.out)) (by simp; omega)).trans (hkeep hI4 hNr.out)
       ·exact hB4.grown hgr5 hB4.size fun x hx => by cases hx; omega
     ·have h6d : decide ((j : Int) < (k : Int)) = false := decide_eq_false (by omega)
      have hjn : j = N m := by have := hNk.out; omega
      rw [hjn] at hX
      replace hjn := Lib.hid hjn
      replace hil := Lib.hid hil
      go_wp2_with fail
      go_roundg (4 - (m + 1))
      case measure => omega
      case rel =>
       refine ⟨m + 1, by omega, rfl, by go_num, fun b hb => ?_, hA, hNr, hX, hB⟩
       by_cases e : b = m
       ·subst e; rw [hv.out]; exact hvv.out
       ·exact hok.out b (by omega)
  ·obtain rfl : m = 4 := by omega
   obtain ⟨NI, hNI⟩ : ∃ NI : Int → Nat, (fun b : Int => (n b.toNat).toNat) = NI := ⟨_, rfl⟩
   have hNb : ∀ b : Nat, b < 4 → n b = (NI (b : Int) : Int) := fun b hb => by
    rw [← hNI]
    have := hok.out b hb
    simp only [Int.toNat_natCast]
    omega
   rw [show moves l (fst4 (fun b => ofL l (b : Int)) N 4) h = after l NI h from by
    rw [fst4_firsts l (fun b => ofL l (b : Int)) N NI (fun _ _ => rfl) (fun b hb => by rw [← hN.out, ← hNI]; simp)]; rfl] at hX
   have hrX := (near_after (h := h) (l := l) hnear.out hlen NI).room (by omega)
   have htog : (∀ b : Nat, b < 4 → fineB (after l NI h) (b : Int) (n b) = true) ↔ TogP h l n := by
    constructor
    ·intro hf
     refine ⟨hgd.out, fun b hb => (hok.out b hb).1, ?_⟩
     rw [hNI]
     refine ⟨fun b b0 b1 => ?_, fun b b0 b1 => ?_⟩
     ·obtain ⟨j, rfl⟩ := Int.eq_ofNat_of_zero_le b0
      have h5 := hok.out j (by omega)
      have h6 := hNb j (by omega)
      omega
     ·obtain ⟨j, rfl⟩ := Int.eq_ofNat_of_zero_le b0
      have h5 := hf j (by omega)
      rw [hNb j (by omega)] at h5
      exact fine_fineB.1 h5
    ·intro t b hb
     have h5 := t.tog.fine (b : Int) (by omega) (by omega)
     have e : (n (b : Int).toNat).toNat = NI (b : Int) := by rw [← hNI]
     rw [hNI] at h5
     rw [hNb b hb]
     exact fine_fineB.2 (e ▸ h5)
   obtain ⟨X, hXe⟩ : ∃ X, after l NI h = X := ⟨_, rfl⟩
   rw [hXe] at hX hrX htog
   replace hXe := Lib.hid hXe
   replace hNI := Lib.hid hNI
   replace hNb := Lib.hid hNb
   replace htog := Lib.hid htog
   obtain ⟨W5, rfl⟩ : ∃ W5 : World, W5 = wr := ⟨_, rfl⟩
   go_wp2_with fail
   go_loopg [58] 4 (fun g s58 wx => ∃ m : Nat, m ≤ 4 ∧ g = 4 - m ∧ s58 = .int .i64 m ∧ (∀ b : Nat, b < m → fineB X (b : Int) (n b) = true) ∧ Below W5.heap.size W5 wx)
   case atStart => exact ⟨0, by omega, rfl, rfl, fun b hb => by omega, Below.refl _ _⟩
   case round =>
    obtain ⟨m, hm, rfl, rfl, hfi, hbw⟩ := hrel
    replace hfi := Lib.hid hfi
    by_cases h4 : m < 4
    ·have h4d : decide ((m : Int) < 4) = true := decide_eq_true (by omega)
     have hm0 : (m : Int) < 4 := by omega
     have hX5 := hkeep hbw hX
     obtain ⟨v, hv⟩ : ∃ v, n m = v := ⟨_, rfl⟩
     have cN : wr.cell? ⟨w.heap.size + 1, m, none⟩ = some (.int .i64 v) := by rw [cells_at (hkeep hbw hNr), nc_get _ m h4, hv]
     replace hv := Lib.hid hv
     by_cases v0 : v = 0
     ·subst v0
      go_wp2_with fail
      go_roundg (4 - (m + 1))
      case measure => omega
      case rel =>
       refine ⟨m + 1, by omega, rfl, by go_num, fun b hb => ?_, hbw⟩
       by_cases e : b = m
       ·subst e; rw [hv.out]; exact fineB_yes (.inl rfl)
       ·exact hfi.out b (by omega)
     ·have v0b : (v == 0) = false := by simpa using v0
      have hcX := cells_at hX5
      have rx := hrX.has (m : Int) (by omega) hm0
      have rc := hrX.cr (m : Int) (by omega) hm0
      have hbn : ∀ q, Below W5.heap.size W5 (wr.drewN q) := fun q => below_drewN hbw q
      replace hbn := Lib.hid hbn
      by_cases hl : X.has (m : Int) + X.cr (m : Int) < 0
      ·have hld : decide (X.has (m : Int) + X.cr (m : Int) < 0) = true := decide_eq_true hl
       have fin : togB h l n = false := togB_no fun t => by
        have h5 := htog.out.2 t m h4
        rw [hv.out] at h5
        rcases fineB_true h5 with h6 | h6
        ·exact v0 h6
        ·have := h6.left; omega
       replace fin := Lib.hid fin
       replace v0 := Lib.hid v0
       go_upto_region 20 with fail
       go_big_quiet (fail)
       go_wp2_with fail
       go_ret
       exact ⟨by rw [fin.out]; rfl, bstep hB hB.size (hbn.out _)⟩
      ·have hld : decide (X.has (m : Int) + X.cr (m : Int) < 0) = false := decide_eq_false hl
       replace v0 := Lib.hid v0
       replace hl := Lib.hid hl
       go_upto_region 20 with fail
       go_big_quiet (fail)
       go_wp2_with fail
       clear hcX cN
       go_loopg [77] 4 (fun g s77 wx => ∃ t : Nat, t ≤ 4 ∧ g = 4 - t ∧ s77 = .int .i64 t ∧ (∀ c : Nat, c < t → 0 ≤ X.lim m c → X.sent m c - X.sent c m ≤ X.lim m c) ∧ Below W5.heap.size W5 wx)
       case atStart => exact ⟨0, by omega, rfl, rfl, fun c hc => by omega, hbn.out _⟩
       case round =>
        clear hX5 hbn hbw
        obtain ⟨t, ht, rfl, rfl, hlm, hbw⟩ := hrel
        replace hlm := Lib.hid hlm
        by_cases h5 : t < 4
        ·have h5d : decide ((t : Int) < 4) = true := decide_eq_true (by omega)
         have ht0 : (t : Int) < 4 := by omega
         have hcX := cells_at (hkeep hbw hX)
         have r1 := hrX.sent (m : Int) (t : Int) (by omega) hm0 (by omega) ht0
         have r2 := hrX.sent (t : Int) (m : Int) (by omega) ht0 (by omega) hm0
         have hbn : ∀ q, Below W5.heap.size W5 (wr.drewN q) := fun q => below_drewN hbw q
         replace hbn := Lib.hid hbn
         by_cases hl2 : 0 ≤ X.lim (m : Int) (t : Int)
         ·have hld2 : decide (X.lim (m : Int) (t : Int) ≥ 0) = true := decide_eq_true hl2
          have hld3 : decide (0 ≤ X.lim (m : Int) (t : Int)) = true := decide_eq_true hl2
          by_cases ho : X.lim (m : Int) (t : Int) < X.sent (m : Int) (t : Int) - X.sent (t : Int) (m : Int)
          ·have hod : decide (X.lim (m : Int) (t : Int) < X.sent (m : Int) (t : Int) - X.sent (t : Int) (m : Int)) = true := decide_eq_true ho
           have fin : togB h l n = false := togB_no fun tt => by
            have h7 := htog.out.2 tt m h4
            rw [hv.out] at h7
            rcases fineB_true h7 with h6 | h6
            ·exact v0.out h6
            ·have := h6.lim (t : Int) (by omega) ht0 hl2; omega
           replace fin := Lib.hid fin
           replace hl2 := Lib.hid hl2
           replace ho := Lib.hid ho
           go_upto_region 26 with fail
           go_big_quiet (fail)
           go_wp2_with fail
           go_ret
           exact ⟨by rw [fin.out]; rfl, bstep hB hB.size (hbn.out _)⟩
          ·have hod : decide (X.lim (m : Int) (t : Int) < X.sent (m : Int) (t : Int) - X.sent (t : Int) (m : Int)) = false := decide_eq_false ho
           replace hl2 := Lib.hid hl2
           replace ho := Lib.hid ho
           go_upto_region 26 with fail
           go_big_quiet (fail)
           go_wp2_with fail
           go_roundg (4 - (t + 1))
           case measure => omega
           case rel =>
            refine ⟨t + 1, by omega, rfl, by go_num, fun c hc hlc => ?_, hbn.out _⟩
            by_cases e : c = t
            ·subst e; have := ho.out; omega
            ·exact hlm.out c (by omega) hlc
         ·have hld2 : decide (X.lim (m : Int) (t : Int) ≥ 0) = false := decide_eq_false hl2
          have hld3 : decide (0 ≤ X.lim (m : Int) (t : Int)) = false := decide_eq_false hl2
          replace hl2 := Lib.hid hl2
          go_upto_region 26 with fail
          go_big_quiet (fail)
          go_wp2_with fail
          go_roundg (4 - (t + 1))
          case measure => omega
          case rel =>
           refine ⟨t + 1, by omega, rfl, by go_num, fun c hc hlc => ?_, hbn.out _⟩
           by_cases e : c = t
           ·subst e; have := hl2.out; omega
           ·exact hlm.out c (by omega) hlc
        ·obtain rfl : t = 4 := by omega
         go_wp2_with fail
         go_roundg (4 - (m + 1))
         case measure => omega
         case rel =>
          refine ⟨m + 1, by omega, rfl, by go_num, fun b hb => ?_, hbw⟩
          by_cases e : b = m
          ·subst e
           exact fineB_yes (.inr ⟨by have := hl.out; omega, fun c c0 c1 hlc => by obtain ⟨d, rfl⟩ := Int.eq_ofNat_of_zero_le c0; exact hlm.out d (by omega) hlc⟩)
          ·exact hfi.out b (by omega)
    ·obtain rfl : m = 4 := by omega
     have fin : togB h l n = true := togB_yes (htog.out.1 hfi.out)
     replace fin := Lib.hid fin
     go_wp2_with fail
     go_ret
     exact ⟨by rw [fin.out]; rfl, bstep hB hB.size hbw⟩
theorem allTogether_any (h : Hs) (l : List Pay) (a : Option Addr) (cap : Nat) (n : Nat → Int) (w : World) (hp : PaysAt w a cap l) :
  Calls Try.prog 90 #[.agg (hc h (.slice a l.length cap)), .agg (nc n)] w fun e w' => e = .returned (.bool (togB h l n)) ∧ Below w.heap.size w w' := by
 cases hg : goodB h l
 ·exact allTog_bad h l a cap n w hp hg
 ·exact allTog_good h l a cap n w hp (goodB_true hg)
end Go.Proofs.Ytggfdkkhlokmlab

namespace Go.Proofs.Ytggfdkkhlokmlab
/-- The place of n in the order in which all are tried. -/
def radix (s n : Nat → Nat) : Nat := n 0 + (s 0 + 1) * (n 1 + (s 1 + 1) * (n 2 + (s 2 + 1) * n 3))
theorem digit {s a x b y : Nat} (ha : a ≤ s) (hb : b ≤ s) (h : a + (s + 1) * x = b + (s + 1) * y) : a = b ∧ x = y := by
 have h1 : (a + (s + 1) * x) % (s + 1) = a := by rw [Nat.add_mul_mod_self_left, Nat.mod_eq_of_lt (by omega)]
 have h2 : (b + (s + 1) * y) % (s + 1) = b := by rw [Nat.add_mul_mod_self_left, Nat.mod_eq_of_lt (by omega)]
 rw [h, h2] at h1
 refine ⟨h1.symm, ?_⟩
 subst h1
 exact Nat.eq_of_mul_eq_mul_left (by omega : 0 < s + 1) (by omega)
theorem radix_inj {s n m : Nat → Nat} (hn : ∀ b, b < 4 → n b ≤ s b) (hm : ∀ b, b < 4 → m b ≤ s b) (h : radix s n = radix s m) : ∀ b, b < 4 → n b = m b := by
 obtain ⟨h0, h⟩ := digit (hn 0 (by omega)) (hm 0 (by omega)) h
 obtain ⟨h1, h⟩ := digit (hn 1 (by omega)) (hm 1 (by omega)) h
 obtain ⟨h2, h3⟩ := digit (hn 2 (by omega)) (hm 2 (by omega)) h
 intro b hb
 match b, hb with
 | 0, _ => exact h0
 | 1, _ => exact h1
 | 2, _ => exact h2
 | 3, _ => exact h3
theorem radix_le {s n : Nat → Nat} (hn : ∀ b, b < 4 → n b ≤ s b) : radix s n ≤ radix s s := by
 unfold radix
 have h0 := hn 0 (by omega)
 have h1 := hn 1 (by omega)
 have h2 := hn 2 (by omega)
 have h3 := hn 3 (by omega)
 have e3 := Nat.mul_le_mul_left (s 2 + 1) h3
 have e2 := Nat.mul_le_mul_left (s 1 + 1) (Nat.add_le_add h2 e3)
 have e1 := Nat.mul_le_mul_left (s 0 + 1) (Nat.add_le_add h1 e2)
 exact Nat.add_le_add h0 e1
theorem radix_top {s n : Nat → Nat} (h : ∀ b, b < 4 → n b = s b) : radix s n = radix s s := by
 unfold radix
 rw [h 0 (by omega), h 1 (by omega), h 2 (by omega), h 3 (by omega)]
/-- The next one: the first b are full, and go to 0. -/
def nextN (n : Nat → Nat) (b : Nat) : Nat → Nat := fun c => if c = b then n b + 1 else if c < b then 0 else n c
theorem carry (s x : Nat) : s + (s + 1) * x + 1 = (s + 1) * (x + 1) := by rw [Nat.mul_succ]; omega
theorem radix_next {s n : Nat → Nat} {b : Nat} (hb : b < 4) (hf : ∀ c, c < b → n c = s c) : radix s (nextN n b) = radix s n + 1 := by
 match b, hb, hf with
 | 0, _, _ => simp [radix, nextN]; omega
 | 1, _, hf =>
  have h0 := hf 0 (by omega)
  have e0 := carry (s 0) (n 1 + (s 1 + 1) * (n 2 + (s 2 + 1) * n 3))
  have hl : radix s (nextN n 1) = (s 0 + 1) * (n 1 + (s 1 + 1) * (n 2 + (s 2 + 1) * n 3) + 1) := by simp [radix, nextN]; congr 1; omega
  rw [hl, radix, h0]; omega
 | 2, _, hf =>
  have h0 := hf 0 (by omega)
  have h1 := hf 1 (by omega)
  have e1 := carry (s 1) (n 2 + (s 2 + 1) * n 3)
  have e0 := carry (s 0) (s 1 + (s 1 + 1) * (n 2 + (s 2 + 1) * n 3))
  rw [e1] at e0
  have hl : radix s (nextN n 2) = (s 0 + 1) * ((s 1 + 1) * (n 2 + (s 2 + 1) * n 3 + 1)) := by simp [radix, nextN]; congr 2; omega
  rw [hl, radix, h0, h1]; omega
 | 3, _, hf =>
  have h0 := hf 0 (by omega)
  have h1 := hf 1 (by omega)
  have h2 := hf 2 (by omega)
  have e2 := carry (s 2) (n 3)
  have e1 := carry (s 1) (s 2 + (s 2 + 1) * n 3)
  rw [e2] at e1
  have e0 := carry (s 0) (s 1 + (s 1 + 1) * (s 2 + (s 2 + 1) * n 3))
  rw [e1] at e0
  have hl : radix s (nextN n 3) = (s 0 + 1) * ((s 1 + 1) * ((s 2 + 1) * (n 3 + 1))) := by simp [radix, nextN]
  rw [hl, radix, h0, h1, h2]; omega
/-- From banks as numbers to banks as integers. -/
abbrev I4 (n : Nat → Nat) : Int → Nat := fun b => n b.toNat
theorem Tog.congr {h : Hs} {l : List Pay} {n m : Int → Nat} (e : ∀ b, 0 ≤ b → b < 4 → n b = m b) (t : Tog h l n) : Tog h l m where
 le := fun b h0 h1 => e b h0 h1 ▸ t.le b h0 h1
 fine := fun b h0 h1 => by
  have h2 := t.fine b h0 h1
  rw [after, firsts_congr l e] at h2
  rw [← e b h0 h1]
  exact h2
theorem I4_congr {n m : Nat → Nat} (h : ∀ b, b < 4 → n b = m b) : ∀ b : Int, 0 ≤ b → b < 4 → I4 n b = I4 m b := fun b h0 h1 => h b.toNat (by omega)
theorem togP_iff {h : Hs} {l : List Pay} (g : GoodP h l) (n : Nat → Nat) : togB h l (fun b => (n b : Int)) = true ↔ Tog h l (I4 n) := by
 constructor
 ·intro t
  exact (togB_true t).tog.congr fun b _ _ => by simp
 ·intro t
  exact togB_yes ⟨g, fun b _ => Int.natCast_nonneg _, t.congr fun b _ _ => by simp⟩
/-- What has been found: of each bank the most of all that were tried (strict: all before n). -/
structure Sofar (h : Hs) (l : List Pay) (s : Nat → Nat) (k : Nat) (best : Nat → Nat) : Prop where
 tog : Tog h l (I4 best)
 all : ∀ m : Nat → Nat, Tog h l (I4 m) → radix s m < k → ∀ b, b < 4 → m b ≤ best b
theorem sofar_start {h : Hs} {l : List Pay} (s : Nat → Nat) : Sofar h l s (radix s fun _ => 0) (fun _ => 0) :=
 ⟨tog_zero h l, fun m _ hk => by simp [radix] at hk⟩
theorem tog_le {h : Hs} {l : List Pay} {m : Nat → Nat} (t : Tog h l (I4 m)) : ∀ b, b < 4 → m b ≤ (ofL l (b : Int)).length := fun b hb => by
 have := t.le (b : Int) (by omega) (by omega)
 simpa [I4] using this
theorem Sofar.under {h : Hs} {l : List Pay} {n best : Nat → Nat} (hs : Sofar h l (fun b => (ofL l (b : Int)).length) (radix (fun b => (ofL l (b : Int)).length) n) best) (hn : ∀ b, b < 4 → n b ≤ (ofL l (b : Int)).length) (hu : ∀ b, b < 4 → n b ≤ best b) : Sofar h l (fun b => (ofL l (b : Int)).length) (radix (fun b => (ofL l (b : Int)).length) n + 1) best :=
 ⟨hs.tog, fun m t hk b hb => by
  rcases Nat.lt_or_ge (radix (fun b => (ofL l (b : Int)).length) m) (radix (fun b => (ofL l (b : Int)).length) n) with h1 | h1
  ·exact hs.all m t h1 b hb
  ·rw [radix_inj (tog_le t) hn (by omega) b hb]; exact hu b hb⟩
theorem Sofar.not {h : Hs} {l : List Pay} {n best : Nat → Nat} (hs : Sofar h l (fun b => (ofL l (b : Int)).length) (radix (fun b => (ofL l (b : Int)).length) n) best) (hn : ∀ b, b < 4 → n b ≤ (ofL l (b : Int)).length) (hu : ¬ Tog h l (I4 n)) : Sofar h l (fun b => (ofL l (b : Int)).length) (radix (fun b => (ofL l (b : Int)).length) n + 1) best :=
 ⟨hs.tog, fun m t hk b hb => by
  rcases Nat.lt_or_ge (radix (fun b => (ofL l (b : Int)).length) m) (radix (fun b => (ofL l (b : Int)).length) n) with h1 | h1
  ·exact hs.all m t h1 b hb
  ·exact absurd (t.congr (I4_congr (radix_inj (tog_le t) hn (by omega)))) hu⟩
theorem Sofar.more {h : Hs} {l : List Pay} (hl : AllPay l) {n best : Nat → Nat} (hs : Sofar h l (fun b => (ofL l (b : Int)).length) (radix (fun b => (ofL l (b : Int)).length) n) best) (hn : ∀ b, b < 4 → n b ≤ (ofL l (b : Int)).length) (hu : Tog h l (I4 n)) : Sofar h l (fun b => (ofL l (b : Int)).length) (radix (fun b => (ofL l (b : Int)).length) n + 1) (fun b => max (best b) (n b)) :=
 ⟨hs.tog.join hl hu, fun m t hk b hb => by
  rcases Nat.lt_or_ge (radix (fun b => (ofL l (b : Int)).length) m) (radix (fun b => (ofL l (b : Int)).length) n) with h1 | h1
  ·have := hs.all m t h1 b hb; show m b ≤ max _ _; omega
  ·have := radix_inj (tog_le t) hn (by omega) b hb; show m b ≤ max _ _; omega⟩
theorem Sofar.done {h : Hs} {l : List Pay} (hl : AllPay l) {n best : Nat → Nat} (hs : Sofar h l (fun b => (ofL l (b : Int)).length) (radix (fun b => (ofL l (b : Int)).length) n + 1) best) (hn : ∀ b, b < 4 → n b = (ofL l (b : Int)).length) {b : Nat} (hb : b < 4) : best b = mostOf h l (b : Int) := by
 have hm : IsMost h l (I4 best) := ⟨hs.tog, fun m t c c0 c1 => by
  have t2 : Tog h l (I4 fun b => m (b : Int)) := t.congr fun b b0 _ => by simp [I4, Int.toNat_of_nonneg b0]
  have h1 := hs.all (fun b => m (b : Int)) t2 (by
   have h2 := radix_le (tog_le t2)
   rw [radix_top hn]
   omega) c.toNat (by omega)
  simpa [I4, Int.toNat_of_nonneg c0] using h1⟩
 have := hm.unique (mostOf_is h hl) (b := (b : Int)) (by omega) (by omega)
 simpa [I4] using this
end Go.Proofs.Ytggfdkkhlokmlab


