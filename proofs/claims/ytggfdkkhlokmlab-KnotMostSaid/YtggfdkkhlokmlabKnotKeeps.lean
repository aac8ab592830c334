/- quittancekeep.KnotJoins and KnotMost: the walks. -/
import Derived.Test.YtggfdkkhlokmlabKnots
import Derived.Test.YtggfdkkhlokmlabCUnt
import Derived.Test.YtggfdkkhlokmlabGate2
namespace Go.Proofs.Ytggfdkkhlokmlab
open Go.RowKit
attribute [local go_sem] hc_pays hc_next hc_size nc_size
theorem three (w : World) (o1 o2 o3 : Obj) : (((w.alloc o1).alloc o2).alloc o3).heap[w.heap.size]? = some o1 ∧ (((w.alloc o1).alloc o2).alloc o3).heap[w.heap.size + 1]? = some o2 ∧ (((w.alloc o1).alloc o2).alloc o3).heap[w.heap.size + 2]? = some o3 ∧ Below w.heap.size w (((w.alloc o1).alloc o2).alloc o3) := by
  have h2 := hnew (w.alloc o1) o2
  have h3 := hnew ((w.alloc o1).alloc o2) o3
  simp only [alloc_sz] at h2 h3
  exact ⟨hold (hold (hnew w o1) _) _, hold h2 _, h3, (((Below.refl w.heap.size w).alloc (Nat.le_refl _) _).alloc (by simp) _).alloc (by simp; omega) _⟩
theorem togB_join {h : Hs} {l : List Pay} {n m : Nat → Int} (hn : togB h l n = true) (hm : togB h l m = true) : togB h l (fun b => max (n b) (m b)) = true := by
  have hn := togB_true hn
  have hm := togB_true hm
  refine togB_yes ⟨hn.good, fun b hb => by have := hn.pos b hb; have := hm.pos b hb; omega, ?_⟩
  have t := hn.tog.join hn.good.allPay hm.tog
  have e : ∀ b : Int, 0 ≤ b → b < 4 → maxN (fun b => (n b.toNat).toNat) (fun b => (m b.toNat).toNat) b = (max (n b.toNat) (m b.toNat)).toNat := fun b h0 h1 => by simp only [maxN]; omega
  refine ⟨fun b h0 h1 => by rw [← e b h0 h1]; exact t.le b h0 h1, fun b h0 h1 => ?_⟩
  have h2 := t.fine b h0 h1
  rw [after, firsts_congr l e, e b h0 h1] at h2
  exact h2
set_option maxRecDepth 100000 in
set_option maxHeartbeats 2000000 in
theorem knotJoins_any (h : Hs) (l : List Pay) (a : Option Addr) (cap : Nat) (n m : Nat → Int) (w : World) (hp : PaysAt w a cap l) :
    Calls Try.prog 4 #[.agg (hc h (.slice a l.length cap)), .agg (nc n), .agg (nc m)] w fun e w' => e = .returned (.bool true) ∧ Below w.heap.size w w' := by
  obtain ⟨b1, e1⟩ : ∃ b1, togB h l n = b1 := ⟨_, rfl⟩
  obtain ⟨b2, e2⟩ : ∃ b2, togB h l m = b2 := ⟨_, rfl⟩
  have c1 := fun w hp => together_any h l a cap n w hp
  have c2 := fun w hp => together_any h l a cap m w hp
  have hj : b1 = true → b2 = true → togB h l (fun b => max (n b) (m b)) = true := fun h1 h2 => togB_join (e1.trans h1) (e2.trans h2)
  rw [e1] at c1
  rw [e2] at c2
  replace e1 := Lib.hid e1
  replace e2 := Lib.hid e2
  replace c1 := Lib.hid c1
  replace c2 := Lib.hid c2
  replace hj := Lib.hid hj
  go_enter Try.func4, Try.ntmps4
  go_upto_region 1 with fail
  generalize hW : World.alloc (World.alloc (World.alloc w _) _) _ = W0
  obtain ⟨hA, hN, hM, hB⟩ : W0.heap[w.heap.size]? = some (.cells (hc h (.slice a l.length cap)) 29 (0, 0)) ∧ W0.heap[w.heap.size + 1]? = some (.cells (nc n) 25 (0, 0)) ∧ W0.heap[w.heap.size + 2]? = some (.cells (nc m) 25 (0, 0)) ∧ Below w.heap.size w W0 := by rw [← hW]; exact three w _ _ _
  have hp0 := hp.below hB
  clear hW
  cases b1
  · go_wp2_with (first | go_skip | (refine ld_row 29 _ rfl rfl _ rfl _ _ _ _ hA Try.underlying29 rfl info30 ?_) | (refine ld_row 25 _ rfl rfl _ rfl _ _ _ _ hN Try.underlying25 rfl info26 ?_) | (go_at_call 18; refine (c1.out _ hp0).mono ?_; rintro e w1 ⟨rfl, hb1⟩) | (go_at_call 16; refine (knotsK_any _).mono ?_; rintro e w9 ⟨rfl, hb9⟩))
    go_ret
    exact ⟨rfl, bstep (bstep hB hB.size hb1) (bstep hB hB.size hb1).size hb9⟩
  go_wp2_with (first | go_skip | (refine ld_row 29 _ rfl rfl _ rfl _ _ _ _ hA Try.underlying29 rfl info30 ?_) | (refine ld_row 25 _ rfl rfl _ rfl _ _ _ _ hN Try.underlying25 rfl info26 ?_))
  refine (c1.out _ hp0).mono ?_
  rintro e w1 ⟨rfl, hb1⟩
  have hA1 := hkeep hb1 hA
  have hN1 := hkeep hb1 hN
  have hM1 := hkeep hb1 hM
  have hp1 := hp0.below hb1
  have hB1 := bstep hB hB.size hb1
  clear hA hN hM hp0 hB hb1
  go_wp2_with (first | go_skip | (refine ld_row 29 _ rfl rfl _ rfl _ _ _ _ hA1 Try.underlying29 rfl info30 ?_) | (refine ld_row 25 _ rfl rfl _ rfl _ _ _ _ hM1 Try.underlying25 rfl info26 ?_))
  refine (c2.out _ hp1).mono ?_
  rintro e w2 ⟨rfl, hb2⟩
  have hA := hkeep hb2 hA1
  have hN := hkeep hb2 hN1
  have hM := hkeep hb2 hM1
  have hp2 := hp1.below hb2
  have hB := bstep hB1 hB1.size hb2
  clear hA1 hN1 hM1 hp1 hB1 hb2
  cases b2
  · go_wp2_with (first | go_skip | (go_at_call 16; refine (knotsK_any _).mono ?_; rintro e w9 ⟨rfl, hb9⟩))
    go_ret
    exact ⟨rfl, bstep hB hB.size hb9⟩
  have hjj := Lib.hid (hj.out (by first | rfl | trivial) (by first | rfl | trivial))
  clear hj
  have hX := hnew w2 (.cells (nc fun _ => 0) 25)
  have hA3 := hold hA (.cells (nc fun _ => 0) 25)
  have hN3 := hold hN (.cells (nc fun _ => 0) 25)
  have hM3 := hold hM (.cells (nc fun _ => 0) 25)
  have hB3 := hB.alloc hB.size (.cells (nc fun _ => 0) 25)
  have hz := hlt hM
  clear hA hN hM hp2 hB
  go_upto_region 4 with fail
  generalize hW : w2.alloc _ = W3
  generalize hC0 : w2.heap.size = bx at *
  have hA : W3.heap[w.heap.size]? = some (.cells (hc h (.slice a l.length cap)) 29 (0, 0)) := by rw [← hW]; exact hA3
  have hN : W3.heap[w.heap.size + 1]? = some (.cells (nc n) 25 (0, 0)) := by rw [← hW]; exact hN3
  have hM : W3.heap[w.heap.size + 2]? = some (.cells (nc m) 25 (0, 0)) := by rw [← hW]; exact hM3
  have hX : W3.heap[bx]? = some (.cells (nc fun _ => 0) 25 (0, 0)) := by rw [← hW]; exact hX
  have hB : Below w.heap.size w W3 := by rw [← hW]; exact hB3
  clear hA3 hN3 hM3 hB3 hW hC0
  go_wp2_with fail
  go_loopg [20] 4 (fun g s20 wx => ∃ k : Nat, k ≤ 4 ∧ g = 4 - k ∧ s20 = .int .i64 k ∧ wx.heap[w.heap.size]? = some (.cells (hc h (.slice a l.length cap)) 29 (0, 0)) ∧ wx.heap[w.heap.size + 1]? = some (.cells (nc n) 25 (0, 0)) ∧ wx.heap[w.heap.size + 2]? = some (.cells (nc m) 25 (0, 0)) ∧ wx.heap[bx]? = some (.cells (nc fun b => if b < k then max (n b) (m b) else 0) 25 (0, 0)) ∧ Below w.heap.size w wx)
  case atStart => exact ⟨0, by omega, rfl, rfl, hA, hN, hM, by simpa using hX, hB⟩
  case round =>
    clear hA hN hM hX hB
    obtain ⟨k, hk, rfl, rfl, hA, hN, hM, hX, hB⟩ := hrel
    by_cases h4 : k < 4
    · have h4d : decide ((k : Int) < 4) = true := decide_eq_true (by omega)
      have hk0 : (k : Int) < 4 := by omega
      have cN : wr.cell? ⟨w.heap.size + 1, k, none⟩ = some (.int .i64 (n k)) := by rw [cells_at hN, nc_get _ k h4]
      have cM : wr.cell? ⟨w.heap.size + 2, k, none⟩ = some (.int .i64 (m k)) := by rw [cells_at hM, nc_get _ k h4]
      have cX : wr.cell? ⟨bx, k, none⟩ = some (.int .i64 0) := by rw [cells_at hX, nc_get _ k h4]; simp
      have hcI : ∀ w', Below wr.heap.size wr w' → w'.cell? ⟨w.heap.size + 1, k, none⟩ = some (.int .i64 (n k)) ∧ w'.cell? ⟨w.heap.size + 2, k, none⟩ = some (.int .i64 (m k)) := fun w' hb =>
        ⟨(hb.cell (p := ⟨w.heap.size + 1, k, none⟩) (World.block_lt_of_cell? _ _ cN)).trans cN, (hb.cell (p := ⟨w.heap.size + 2, k, none⟩) (World.block_lt_of_cell? _ _ cM)).trans cM⟩
      replace hcI := Lib.hid hcI
      clear cN cM cX
      have hxl := hlt hX
      go_upto_region 7 with fail
      refine wpG_start (Below wr.heap.size wr) 9 (by kernel_rfl) ?_
      have hI0 : Below wr.heap.size wr wr.drew := (Below.refl _ _).drew
      refine wpG_put 23 (i := 0) (oi := _) (v := (.int .i64 (k : Int))) [0] rfl rfl (by kernel_rfl) (by kernel_rfl) (by kernel_rfl) (by kernel_rfl) (fun _ _ _ h => h) hI0 ?hy0 ?rs0
      case hy0 => exact Or.inl ⟨by rfl, by intro w' hb; obtain ⟨c1, c2⟩ := hcI.out w' hb; go_simp⟩
      (try simp only [Act.put]); (try simp only [List.setIfInBounds_toArray]); (try simp only [List.set_cons_succ]); (try simp only [List.set_cons_zero]); (try simp only [List.size_toArray])
      refine wpG_put 24 (i := 1) (oi := _) (v := (.int .i64 (k : Int))) [1] rfl rfl (by kernel_rfl) (by kernel_rfl) (by kernel_rfl) (by kernel_rfl) (fun _ _ _ h => h) hI0 ?hy1 ?rs1
      case hy1 => exact Or.inl ⟨by rfl, by intro w' hb; obtain ⟨c1, c2⟩ := hcI.out w' hb; go_simp⟩
      (try simp only [Act.put]); (try simp only [List.setIfInBounds_toArray]); (try simp only [List.set_cons_succ]); (try simp only [List.set_cons_zero]); (try simp only [List.size_toArray])
      refine wpG_put 25 (i := 2) (oi := _) (v := (.pointer (some ⟨w.heap.size + 1, k, none⟩))) [2] rfl rfl (by kernel_rfl) (by kernel_rfl) (by kernel_rfl) (by kernel_rfl) (fun _ _ _ h => h) hI0 ?hy2 ?rs2
      case hy2 => exact Or.inl ⟨by rfl, by intro w' hb; obtain ⟨c1, c2⟩ := hcI.out w' hb; go_simp⟩
      (try simp only [Act.put]); (try simp only [List.setIfInBounds_toArray]); (try simp only [List.set_cons_succ]); (try simp only [List.set_cons_zero]); (try simp only [List.size_toArray])
      refine wpG_put 26 (i := 3) (oi := _) (v := (.int .i64 (n k))) [3] rfl rfl (by kernel_rfl) (by kernel_rfl) (by kernel_rfl) (by kernel_rfl) (fun _ _ _ h => h) hI0 ?hy3 ?rs3
      case hy3 => exact Or.inl ⟨by rfl, by intro w' hb; obtain ⟨c1, c2⟩ := hcI.out w' hb; go_simp⟩
      (try simp only [Act.put]); (try simp only [List.setIfInBounds_toArray]); (try simp only [List.set_cons_succ]); (try simp only [List.set_cons_zero]); (try simp only [List.size_toArray])
      refine wpG_put 27 (i := 4) (oi := _) (v := (.int .i64 (k : Int))) [4] rfl rfl (by kernel_rfl) (by kernel_rfl) (by kernel_rfl) (by kernel_rfl) (fun _ _ _ h => h) hI0 ?hy4 ?rs4
      case hy4 => exact Or.inl ⟨by rfl, by intro w' hb; obtain ⟨c1, c2⟩ := hcI.out w' hb; go_simp⟩
      (try simp only [Act.put]); (try simp only [List.setIfInBounds_toArray]); (try simp only [List.set_cons_succ]); (try simp only [List.set_cons_zero]); (try simp only [List.size_toArray])
      refine wpG_put 28 (i := 5) (oi := _) (v := (.pointer (some ⟨w.heap.size + 2, k, none⟩))) [5] rfl rfl (by kernel_rfl) (by kernel_rfl) (by kernel_rfl) (by kernel_rfl) (fun _ _ _ h => h) hI0 ?hy5 ?rs5
      case hy5 => exact Or.inl ⟨by rfl, by intro w' hb; obtain ⟨c1, c2⟩ := hcI.out w' hb; go_simp⟩
      (try simp only [Act.put]); (try simp only [List.setIfInBounds_toArray]); (try simp only [List.set_cons_succ]); (try simp only [List.set_cons_zero]); (try simp only [List.size_toArray])
      refine wpG_put 29 (i := 6) (oi := _) (v := (.int .i64 (m k))) [6] rfl rfl (by kernel_rfl) (by kernel_rfl) (by kernel_rfl) (by kernel_rfl) (fun _ _ _ h => h) hI0 ?hy6 ?rs6
      case hy6 => exact Or.inl ⟨by rfl, by intro w' hb; obtain ⟨c1, c2⟩ := hcI.out w' hb; go_simp⟩
      (try simp only [Act.put]); (try simp only [List.setIfInBounds_toArray]); (try simp only [List.set_cons_succ]); (try simp only [List.set_cons_zero]); (try simp only [List.size_toArray])
      refine wpG_put 30 (i := 7) (oi := _) (v := (.int .i64 (max (n k) (m k)))) [7] rfl rfl (by kernel_rfl) (by kernel_rfl) (by kernel_rfl) (by kernel_rfl) (fun _ _ _ h => h) hI0 ?hy7 ?rs7
      case hy7 => exact Or.inl ⟨by rfl, by intro w' hb; obtain ⟨c1, c2⟩ := hcI.out w' hb; go_simp⟩
      (try simp only [Act.put]); (try simp only [List.setIfInBounds_toArray]); (try simp only [List.set_cons_succ]); (try simp only [List.set_cons_zero]); (try simp only [List.size_toArray])
      refine wpG_put 31 (i := 8) (oi := _) (v := (.pointer (some ⟨bx, k, none⟩))) [8] rfl rfl (by kernel_rfl) (by kernel_rfl) (by kernel_rfl) (by kernel_rfl) (fun _ _ _ h => h) hI0 ?hy8 ?rs8
      case hy8 => exact Or.inl ⟨by rfl, by intro w' hb; obtain ⟨c1, c2⟩ := hcI.out w' hb; go_simp⟩
      (try simp only [Act.put]); (try simp only [List.setIfInBounds_toArray]); (try simp only [List.set_cons_succ]); (try simp only [List.set_cons_zero]); (try simp only [List.size_toArray])
      refine wpG_drop 9 rfl (by kernel_rfl) ?_
      simp only [List.drop_succ_cons, List.drop_zero]
      have hX9 := hkeep hI0 hX
      have cX : wr.drew.cell? ⟨bx, k, none⟩ = some (.int .i64 0) := by rw [cells_at hX9, nc_get _ k h4]; simp
      have fX := frozenAt hX9 k
      have hX2 := hsetSame (i := k) hX9 (.int .i64 (max (n k) (m k)))
      have hrw : (nc fun b => if b < k then max (n b) (m b) else 0).setIfInBounds k (.int .i64 (max (n k) (m k))) = nc fun b => if b < k + 1 then max (n b) (m b) else 0 := by
        rw [nc_set _ k _ h4]
        refine nc_congr fun b _ => ?_
        by_cases e : b = k
        · subst e; simp
        · rw [if_neg e]
          by_cases e2 : b < k
          · rw [if_pos e2, if_pos (by omega)]
          · rw [if_neg e2, if_neg (by omega)]
      rw [hrw] at hX2
      go_wp2_with fail
      go_roundg (4 - (k + 1))
      case measure => omega
      case rel => exact ⟨k + 1, by omega, rfl, by go_num, hsetOther (hkeep hI0 hA) (by omega) _, hsetOther (hkeep hI0 hN) (by omega) _, hsetOther (hkeep hI0 hM) (by omega) _, hX2, (bstep hB hB.size hI0).setCell (p := ⟨bx, k, none⟩) (by show w.heap.size ≤ bx; omega) _⟩
    · obtain rfl : k = 4 := by omega
      rw [nc_congr (n := fun b => if b < 4 then max (n b) (m b) else 0) (m := fun b => max (n b) (m b)) (fun b hb => by simp [hb])] at hX
      have hpx := hp.below hB
      have c3 := together_any h l a cap (fun b => max (n b) (m b)) wr hpx
      rw [hjj.out] at c3
      clear hk
      replace c3 := Lib.hid c3
      go_wp2_with (first | go_skip | (refine ld_row 29 _ rfl rfl _ rfl _ _ _ _ hA Try.underlying29 rfl info30 ?_) | (refine ld_row 25 _ rfl rfl _ rfl _ _ _ _ hX Try.underlying25 rfl info26 ?_) | (go_at_call 18; refine c3.out.mono ?_; rintro e w3 ⟨rfl, hb3⟩) | (go_at_call 16; refine (knotsK_any _).mono ?_; rintro e w9 ⟨rfl, hb9⟩))
      go_ret
      exact ⟨rfl, bstep (bstep hB hB.size hb3) (bstep hB hB.size hb3).size hb9⟩

theorem tog_congr {h : Hs} {l : List Pay} {n m : Int → Nat} (e : ∀ b, 0 ≤ b → b < 4 → n b = m b) (t : Tog h l n) : Tog h l m where
  le := fun b h0 h1 => e b h0 h1 ▸ t.le b h0 h1
  fine := fun b h0 h1 => by
    have h2 := t.fine b h0 h1
    rw [after, firsts_congr l e] at h2
    rw [← e b h0 h1]
    exact h2
theorem togB_most {h : Hs} {l : List Pay} (g : goodB h l = true) : togB h l (mostN h l) = true :=
  togB_yes ⟨goodB_true g, fun b _ => by simp [mostN, g], tog_congr (fun b h0 _ => by simp [mostN, g, Int.toNat_of_nonneg h0]) (mostOf_is h (goodB_true g).allPay).tog⟩
theorem togB_zero {h : Hs} {l : List Pay} (g : goodB h l = true) : togB h l (fun _ => 0) = true :=
  togB_yes ⟨goodB_true g, fun _ _ => Int.le_refl _, tog_congr (fun b _ _ => by simp) (tog_zero h l)⟩
theorem togB_le {h : Hs} {l : List Pay} {n : Nat → Int} (t : togB h l n = true) {b : Nat} (hb : b < 4) : n b ≤ mostN h l b := by
  have t := togB_true t
  have h1 := (mostOf_is h t.good.allPay).most _ t.tog (b : Int) (by omega) (by omega)
  have h2 := t.pos b hb
  simp only [Int.toNat_natCast] at h1
  rw [mostN, if_pos (goodB_yes t.good)]
  omega
set_option maxRecDepth 100000 in
set_option maxHeartbeats 2000000 in
theorem knotMost_any (h : Hs) (l : List Pay) (a : Option Addr) (cap : Nat) (n : Nat → Int) (w : World) (hp : PaysAt w a cap l) :
    Calls Try.prog 3 #[.agg (hc h (.slice a l.length cap)), .agg (nc n)] w fun e w' => e = .returned (.bool true) ∧ Below w.heap.size w w' := by
  obtain ⟨b1, e1⟩ : ∃ b1, togB h l n = b1 := ⟨_, rfl⟩
  have hle : b1 = true → ∀ b, b < 4 → n b ≤ mostN h l b := fun h1 b hb => togB_le (e1.trans h1) hb
  have hA := heap_alloc2_old w (.cells (hc h (.slice a l.length cap)) 29) (.cells (nc n) 25)
  have hN := heap_alloc2_new w (.cells (hc h (.slice a l.length cap)) 29) (.cells (nc n) 25)
  have hB := ((Below.refl w.heap.size w).alloc (Nat.le_refl _) (.cells (hc h (.slice a l.length cap)) 29)).alloc (by simp) (.cells (nc n) 25)
  have hp0 := hp.below hB
  obtain ⟨M, hM⟩ : ∃ M, mostN h l = M := ⟨_, rfl⟩
  have hmt : goodB h l = true → togB h l M = true := fun g => by rw [← hM]; exact togB_most g
  have hzt : goodB h l = true → togB h l (fun _ => 0) = true := fun g => togB_zero g
  have c1 := fun w hp => together_any h l a cap n w hp
  have c2 := fun w hp => most_any h l a cap w hp
  unfold MostPost at c2
  rw [e1] at c1
  rw [hM] at c2 hle
  replace e1 := Lib.hid e1
  replace hM := Lib.hid hM
  replace c1 := Lib.hid c1
  replace c2 := Lib.hid c2
  cases hg : goodB h l
  · replace hg := Lib.hid hg
    replace hmt := Lib.hid hmt
    replace hzt := Lib.hid hzt
    replace hle := Lib.hid hle
    go_enter Try.func3, Try.ntmps3
    go_wp2_with (first | go_skip | (refine ld_row 29 _ rfl rfl _ rfl _ _ _ _ hA Try.underlying29 rfl info30 ?_) | (go_at_call 15; refine (good_any h l _ cap _ hp0).mono ?_; rintro e w1 ⟨rfl, hb1⟩; rw [hg.out]) | (go_at_call 16; refine (knotsK_any _).mono ?_; rintro e w9 ⟨rfl, hb9⟩))
    go_ret
    exact ⟨rfl, bstep (bstep hB hB.size hb1) (bstep hB hB.size hb1).size hb9⟩
  have ht1 := hmt hg
  have ht2 := hzt hg
  have c3 := fun w hp => together_any h l a cap M w hp
  have c4 := fun w hp => together_any h l a cap (fun _ => 0) w hp
  rw [ht1] at c3
  rw [ht2] at c4
  clear hmt hzt
  replace hle := Lib.hid hle
  replace ht1 := Lib.hid ht1
  replace ht2 := Lib.hid ht2
  replace hg := Lib.hid hg
  replace c3 := Lib.hid c3
  replace c4 := Lib.hid c4
  clear hp
  go_enter Try.func3, Try.ntmps3
  go_upto_region 3 with (first | go_skip | (refine ld_row 29 _ rfl rfl _ rfl _ _ _ _ hA Try.underlying29 rfl info30 ?_) | (go_at_call 15; refine (good_any h l _ cap _ hp0).mono ?_; rintro e w1 ⟨rfl, hb1⟩; rw [hg.out]))
  have hA1 := hkeep hb1 hA
  have hN1 := hkeep hb1 hN
  have hp1 := hp0.below hb1
  have hB1 := bstep hB hB.size hb1
  clear hA hN hB hp0 hb1
  go_wp2_with (first | go_skip | (refine ld_row 29 _ rfl rfl _ rfl _ _ _ _ hA1 Try.underlying29 rfl info30 ?_))
  refine (c2.out _ hp1).mono ?_
  rintro e w2 ⟨rfl, hb2⟩
  have hA2 := hold (hkeep hb2 hA1) (.cells (nc M) 25)
  have hN2 := hold (hkeep hb2 hN1) (.cells (nc M) 25)
  have hM2 := hnew w2 (.cells (nc M) 25)
  have hp2 := (hp1.below hb2).alloc (.cells (nc M) 25)
  have hB2 := bstep hB1 hB1.size hb2
  have hB3 := hB2.alloc hB2.size (.cells (nc M) 25)
  clear hA1 hN1 hp1 hB1 hb2 hB2
  replace hA2 := Lib.hid hA2
  replace hN2 := Lib.hid hN2
  replace hM2 := Lib.hid hM2
  go_upto_region 4 with (first | go_skip | (refine st_new 25 _ _ rfl _ 25 _ rfl rfl rfl (nc M) rfl info26 rfl (nc_one _) ?_))
  replace hA2 := hA2.out
  replace hN2 := hN2.out
  replace hM2 := hM2.out
  generalize hW : w2.alloc (.cells (nc M) 25) = W at *
  generalize hC0 : w2.heap.size = bm at *
  clear hW hC0
  go_wp2_with (first | go_skip | (refine ld_row 29 _ rfl rfl _ rfl _ _ _ _ hA2 Try.underlying29 rfl info30 ?_) | (refine ld_row 25 _ rfl rfl _ rfl _ _ _ _ hM2 Try.underlying25 rfl info26 ?_))
  refine (c3.out _ hp2).mono ?_
  rintro e w3 ⟨rfl, hb3⟩
  have hA := hkeep hb3 hA2
  have hN := hkeep hb3 hN2
  have hMM := hkeep hb3 hM2
  have hp3 := hp2.below hb3
  have hB := bstep hB3 hB3.size hb3
  clear hA2 hN2 hM2 hp2 hB3 hb3
  go_wp2_with (first | go_skip | (refine ld_row 29 _ rfl rfl _ rfl _ _ _ _ hA Try.underlying29 rfl info30 ?_))
  refine (c4.out _ hp3).mono ?_
  rintro e w4 ⟨rfl, hb4⟩
  have hA4 := hkeep hb4 hA
  have hN4 := hkeep hb4 hN
  have hM4 := hkeep hb4 hMM
  have hp4 := hp3.below hb4
  have hB4 := bstep hB hB.size hb4
  clear hA hN hMM hp3 hB hb4
  go_wp2_with (first | go_skip | (refine ld_row 29 _ rfl rfl _ rfl _ _ _ _ hA4 Try.underlying29 rfl info30 ?_) | (refine ld_row 25 _ rfl rfl _ rfl _ _ _ _ hN4 Try.underlying25 rfl info26 ?_))
  refine (c1.out _ hp4).mono ?_
  rintro e w5 ⟨rfl, hb5⟩
  have hN := hkeep hb5 hN4
  have hMM := hkeep hb5 hM4
  have hB := bstep hB4 hB4.size hb5
  clear hA4 hN4 hM4 hp4 hB4 hb5
  cases b1
  · go_wp2_with (first | go_skip | (go_at_call 16; refine (knotsK_any _).mono ?_; rintro e w9 ⟨rfl, hb9⟩))
    go_ret
    exact ⟨rfl, bstep hB hB.size hb9⟩
  · have hlk := Lib.hid (hle.out (by first | rfl | trivial))
    clear hle
    go_wp2_with fail
    go_loopg [26] 4 (fun g s26 wx => ∃ k : Nat, k ≤ 4 ∧ g = 4 - k ∧ s26 = .int .i64 k ∧ Below w5.heap.size w5 wx)
    case atStart => exact ⟨0, by omega, rfl, rfl, Below.refl _ _⟩
    case round =>
      obtain ⟨k, hk, rfl, rfl, hbw⟩ := hrel
      by_cases h4 : k < 4
      · have h4d : decide ((k : Int) < 4) = true := decide_eq_true (by omega)
        have hk0 : (k : Int) < 4 := by omega
        have hkk := hlk.out k h4
        have hcd : decide (n k > M k) = false := decide_eq_false (by omega)
        have hcd2 : decide (M k < n k) = false := decide_eq_false (by omega)
        have cN : wr.cell? ⟨w.heap.size + 1, k, none⟩ = some (.int .i64 (n k)) := by rw [cells_at (hkeep hbw hN), nc_get _ k h4]
        have cM : wr.cell? ⟨bm, k, none⟩ = some (.int .i64 (M k)) := by rw [cells_at (hkeep hbw hMM), nc_get _ k h4]
        have hbn : ∀ q, Below w5.heap.size w5 (wr.drewN q) := fun q => below_drewN hbw q
        replace hbn := Lib.hid hbn
        replace hkk := Lib.hid hkk
        go_upto_region 10 with fail
        go_big_quiet (fail)
        go_wp2_with fail
        go_roundg (4 - (k + 1))
        case measure => omega
        case rel => exact ⟨k + 1, by omega, rfl, by go_num, hbn.out _⟩
      · obtain rfl : k = 4 := by omega
        go_wp2_with (first | go_skip | (go_at_call 16; refine (knotsK_any _).mono ?_; rintro e w9 ⟨rfl, hb9⟩))
        go_ret
        exact ⟨rfl, bstep (bstep hB hB.size hbw) (bstep hB hB.size hbw).size hb9⟩
end Go.Proofs.Ytggfdkkhlokmlab

