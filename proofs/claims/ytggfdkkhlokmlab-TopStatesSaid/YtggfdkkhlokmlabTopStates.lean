/- TopStates: the walks. -/
import Derived.Deep.DeepCutAuto
import Derived.Test.YtggfdkkhlokmlabTopSame
namespace Go.Proofs.Ytggfdkkhlokmlab
open Go.RowKit
attribute [local go_sem] hc_pays hc_next hc_size rc_0 rc_1 rc_2 rc_size dc_0 dc_1 dc_2 dc_3 dc_4 dc_size pc_4 pc_size
/-- How many below j stand in D. -/
def cntD (D : List Nat) (j : Nat) : Nat := ((List.range j).filter fun i => decide (i ∈ D)).length
theorem cntD_succ (D : List Nat) (j : Nat) : cntD D (j + 1) = cntD D j + (if j ∈ D then 1 else 0) := by
  simp only [cntD, List.range_succ, List.filter_append, List.length_append]
  by_cases h : j ∈ D <;> simp [h]
theorem cntD_le (D : List Nat) (j : Nat) : cntD D j ≤ j := by
  have := List.length_filter_le (fun i => decide (i ∈ D)) (List.range j)
  rw [List.length_range] at this
  exact this
theorem cntD_all {l l' : List Pay} {D : List Nat} (t : Told l l' D) : cntD D l'.length = D.length := by
  rw [← told_count t, cntD]
  congr 1
  refine List.filter_congr fun i hi => ?_
  have hi := List.mem_range.1 hi
  rw [decide_eq_decide, t.mem]
  exact ⟨fun h => h.2, fun h => ⟨hi, h⟩⟩
theorem count_take {D : List Nat} {k x : Nat} (j : Nat) (h : D[k]? = some x) : (D.take (k + 1)).count j = (D.take k).count j + (if x = j then 1 else 0) := by
  rw [List.take_add_one, h, Option.toList, List.count_append, List.count_singleton]
  simp only [beq_iff_eq]
theorem count_all {D : List Nat} (h : D.Nodup) (j : Nat) : D.count j = if j ∈ D then 1 else 0 := h.count
set_option maxRecDepth 100000 in
set_option maxHeartbeats 4000000 in
theorem topStates_look (p wb : Nat) (av : Nat → Prop) (B : Bk) (d : Deed) (c n : Int) (D : List Nat) (al : Option Addr) (cl : Nat) (w : World) (X : Hs) (aw : Option Addr) (capw : Nat) (L : List Pay) (hk : BankAt w p av B) (ht : d.kind ≠ 11 → Told L B.l D)
    (h24 : B.l.length ≤ 24) (hL24 : L.length ≤ 24) (hD : IntsAt w al cl (nats D)) (hZ0 : w.heap[wb]? = some (.cells (hc X (.slice aw L.length capw)) 29 (0, 0))) (hp0 : PaysAt w aw capw L) :
    Calls Try.prog 38 #[.pointer (some ⟨p, 0, none⟩), .agg (dc d), .agg (rc c n (.slice al D.length cl)), .pointer (some ⟨wb, 0, none⟩)] w fun e w' => e = .returned (.bool true) ∧ Only (fun b => b = wb) w w' ∧
      ∃ a cap, w'.heap[wb]? = some (.cells (hc B.h (.slice a B.l.length cap)) 29 (0, 0)) ∧ PaysAt w' a cap B.l ∧ (0 < B.l.length → ∀ b off s, a = some ⟨b, off, s⟩ → w.heap.size ≤ b) := by
  have hbank := fun w hk => bankHouse_any p av B w hk
  obtain ⟨h, l, t, dn, f, m0⟩ := B
  simp only at hbank ht h24 ⊢
  have hdl : D.length ≤ 9223372036854775807 := by have h1 := hD.le; have h2 := hD.capm; rw [nats_len] at h1; unfold maxLen at h2; omega
  replace hbank := Lib.hid hbank
  replace hk := Lib.hid hk
  replace hD := Lib.hid hD
  replace hp0 := Lib.hid hp0
  go_enter Try.func38, Try.ntmps38
  go_upto_region 1 with fail
  generalize hW : World.alloc (World.alloc w _) _ = W0
  have hA : W0.heap[w.heap.size]? = some (.cells (dc d) 40 (0, 0)) := by rw [← hW]; exact heap_alloc2_old w _ _
  have hR : W0.heap[w.heap.size + 1]? = some (.cells (rc c n (.slice al D.length cl)) 44 (0, 0)) := by rw [← hW]; exact heap_alloc2_new w _ _
  have hB0 : Below w.heap.size w W0 := by rw [← hW]; exact ((Below.refl w.heap.size w).alloc (Nat.le_refl _) _).alloc (by simp) _
  clear hW
  have hk0 := hk.out.below hB0
  go_upto_region 2 with (first | go_skip | (go_at_call 21; refine (hbank.out _ hk0).mono ?_; rintro e w1 ⟨⟨u, rfl, hown⟩, hb1⟩; obtain ⟨a1, cap1, rfl, hp1, hpb1⟩ := hown.at_) | (refine st_new 29 _ _ rfl _ 29 _ rfl rfl rfl (hc h (.slice a1 l.length cap1)) rfl info30 rfl (hc_one _ _ rfl) ?_))
  have hX0 := hnew w1 (.cells (hc h (.slice a1 l.length cap1)) 29)
  have hB01 := hb1.alloc hb1.size (.cells (hc h (.slice a1 l.length cap1)) 29)
  have hp2 := hp1.alloc (.cells (hc h (.slice a1 l.length cap1)) 29)
  have hB1 := bstep hB0 hB0.size hB01
  have hA1 := hkeep hB01 hA
  have hR1 := hkeep hB01 hR
  have hsz := hB0.size
  have hpb : ∀ b off s, a1 = some ⟨b, off, s⟩ → w.heap.size ≤ b := fun b off s e => by have := hpb1 b off s e; omega
  generalize w1.alloc (.cells (hc h (.slice a1 l.length cap1)) 29) = W at *
  have hcx := hb1.size
  generalize w1.heap.size = cx at *
  clear hown hp1 hb1 hB0 hk0 hB01 hA hR hpb1
  have hZ1 := hkeep hB1 hZ0
  have hp01 := hp0.out.below hB1
  have hD1 := hD.out.below hB1
  have hzl := hlt hZ0
  have cA := cells_at hA1
  replace hpb := Lib.hid hpb
  replace ht := Lib.hid ht
  by_cases h11 : d.kind = 11
  · have q11 : (d.kind == 11) = true := by rw [beq_iff_eq]; exact h11
    replace h11 := Lib.hid h11
    go_wp2_with (first | go_skip | (refine ld_row 29 _ rfl rfl _ rfl _ _ _ _ hX0 Try.underlying29 rfl info30 ?_) | (refine st_row 29 _ _ rfl rfl _ rfl _ rfl _ _ hZ1 info30 rfl (hc_one _ _ rfl) ?_; intro w5 hr5 hgr5 hsz5))
    go_ret
    exact ⟨rfl, (only_new hB1).trans ((only_grown hgr5).mono fun b _ e => by cases e; rfl), a1, cap1, hr5, payN hp2 hgr5 fun hl b off s e => by have := hpb.out b off s e; omega, fun _ => hpb.out⟩
  have q11 : (d.kind == 11) = false := by rw [beq_eq_false_iff_ne]; exact h11
  have hT := ht.out h11
  have hmem := hT.mem
  have hstay := hT.stay
  have hlen := hT.len
  have hnd := hT.nodup
  have hall := cntD_all hT
  have hlz : ¬ l.length < L.length := by omega
  have cX := cells_at hX0
  have cZ := cells_at hZ1
  clear hT ht
  replace h11 := Lib.hid h11
  replace hmem := Lib.hid hmem
  replace hstay := Lib.hid hstay
  replace hnd := Lib.hid hnd
  replace hall := Lib.hid hall
  go_wp2_with fail
  clear cA cX cZ
  go_loopg [9, 32] l.length (fun g s9 s32 wr => ∃ j : Nat, j ≤ l.length ∧ g = l.length - j ∧ s32 = .int .i64 j ∧ s9 = .int .i64 (cntD D j : Nat) ∧ Below W.heap.size W wr)
  case atStart => exact ⟨0, by omega, rfl, rfl, rfl, Below.refl _ _⟩
  case round =>
    obtain ⟨j, hj, rfl, rfl, rfl, hbw⟩ := hrel
    by_cases h4 : j < l.length
    · have h4d : decide ((j : Int) < l.length) = true := decide_eq_true (by omega)
      obtain ⟨q, hpk⟩ : ∃ q, l[j]? = some q := ⟨l[j], List.getElem?_eq_getElem h4⟩
      obtain ⟨b1, o1, rfl, _, hc1⟩ := (hp2.below hbw).row (by omega)
      have hcp : ∀ m u, (pc q)[m]? = some u → wr.cell? ⟨b1, o1 + j * 6 + m, none⟩ = some u := fun m u hu => by rw [Nat.add_assoc]; exact hc1 j q hpk m u hu
      have hq : payAt l j = q := payAt_some hpk
      have hmj := hmem.out j
      have hsj := hstay.out j
      rw [hq] at hmj hsj
      have hcs := cntD_succ D j
      have hcl := cntD_le D j
      have hcnt := count_all hnd.out j
      replace hmj := Lib.hid hmj
      replace hsj := Lib.hid hsj
      replace hcs := Lib.hid hcs
      replace hpk := Lib.hid hpk
      replace hq := Lib.hid hq
      replace hcp := Lib.hid hcp
      replace hcnt := Lib.hid hcnt
      clear hc1
      go_upto_region 11 with (first | go_skip | (refine ld_cells 70 _ rfl rfl b1 (o1 + j * 6) rfl (pc q) _ Try.underlying70 rfl info36 hcp.out ?_) | (refine st_new 70 _ _ rfl _ 70 _ rfl rfl rfl (pc q) rfl info36 rfl (pc_one q) ?_))
      have hQ := hnew wr (.cells (pc q) 70)
      have hb8 := hbw.alloc hbw.size (.cells (pc q) 70)
      have hqb := hbw.size
      generalize wr.alloc (.cells (pc q) 70) = w8 at *
      generalize wr.heap.size = qb at *
      clear hcp hbw
      have cQ := cells_at hQ
      have hZ8 := hkeep hb8 hZ1
      have cZ := cells_at hZ8
      have hp8 := hp01.below hb8
      obtain ⟨wo, rfl⟩ : ∃ wo : World, wo = w8 := ⟨_, rfl⟩
      simp only [Act.put]
      go_cut [12] (fun s12 wx => s12 = .bool (decide (j ∈ D)) ∧ wx = wo)
      case first =>
        by_cases e2 : q.st = 2
        · have d2 : (q.st == 2) = true := by rw [beq_iff_eq]; exact e2
          by_cases e3 : j < L.length
          · have d3 : decide ((j : Int) ≥ L.length) = false := decide_eq_false (by omega)
            have d3' : decide ((L.length : Int) ≤ j) = false := decide_eq_false (by omega)
            have d3n : ¬ L.length ≤ j := by omega
            obtain ⟨bw, ow, rfl, _, hcw⟩ := hp8.row (by omega)
            obtain ⟨s0, hs0⟩ : ∃ s0, (payAt L j).st = s0 := ⟨_, rfl⟩
            have hcj : wo.cell? ⟨bw, ow + j * 6 + 4, none⟩ = some (.int .i64 s0) := by rw [← hs0, Nat.add_assoc]; exact hcw j (payAt L j) (payAt_get e3) 4 _ rfl
            by_cases e4 : s0 = 2
            · have d4 : (s0 == 2) = true := by rw [beq_iff_eq]; exact e4
              have d4' : (s0 != 2) = false := by rw [bne, d4]; rfl
              have fin : decide (j ∈ D) = false := decide_eq_false fun hm => by have := (hmj.out.1 hm).2.2; omega
              replace e2 := Lib.hid e2
              replace e4 := Lib.hid e4
              replace hs0 := Lib.hid hs0
              clear hcw
              go_wp2_with fail
              go_meet
              case rel => exact ⟨by rw [fin], rfl⟩
            · have d4 : (s0 == 2) = false := by rw [beq_eq_false_iff_ne]; exact e4
              have d4' : (s0 != 2) = true := by rw [bne, d4]; rfl
              have fin : decide (j ∈ D) = true := decide_eq_true (hmj.out.2 ⟨h4, e2, .inr (by rw [hs0]; exact e4)⟩)
              replace e2 := Lib.hid e2
              replace e4 := Lib.hid e4
              replace hs0 := Lib.hid hs0
              clear hcw
              go_wp2_with fail
              go_meet
              case rel => exact ⟨by rw [fin], rfl⟩
          · have d3 : decide ((j : Int) ≥ L.length) = true := decide_eq_true (by omega)
            have d3' : decide ((L.length : Int) ≤ j) = true := decide_eq_true (by omega)
            have d3n : L.length ≤ j := by omega
            have fin : decide (j ∈ D) = true := decide_eq_true (hmj.out.2 ⟨h4, e2, .inl (by omega)⟩)
            replace e2 := Lib.hid e2
            go_wp2_with fail
            go_meet
            case rel => exact ⟨by rw [fin], rfl⟩
        · have d2 : (q.st == 2) = false := by rw [beq_eq_false_iff_ne]; exact e2
          have fin : decide (j ∈ D) = false := decide_eq_false fun hm => e2 (hmj.out.1 hm).2.1
          replace e2 := Lib.hid e2
          go_wp2_with fail
          go_meet
          case rel => exact ⟨by rw [fin], rfl⟩
      case rest =>
        obtain ⟨rfl, rfl⟩ := hcut
        go_upto_region 12 with fail
        have hd8 : Below wc.heap.size wc wc.drew := (Below.refl _ _).drew
        go_cut [80] (fun s80 wx => s80 = .bool false ∧ Below wc.heap.size wc wx)
        case first =>
          by_cases e3 : j < L.length
          · have d3 : decide ((j : Int) < L.length) = true := decide_eq_true (by omega)
            obtain ⟨bw, ow, rfl, _, hcw⟩ := hp8.row (by omega)
            have hs := hsj.out e3
            obtain ⟨s0, hs0⟩ : ∃ s0, (payAt L j).st = s0 := ⟨_, rfl⟩
            have hcj : wc.cell? ⟨bw, ow + j * 6 + 4, none⟩ = some (.int .i64 s0) := by rw [← hs0, Nat.add_assoc]; exact hcw j (payAt L j) (payAt_get e3) 4 _ rfl
            rw [hs0] at hs
            clear hcw
            replace hs0 := Lib.hid hs0
            by_cases e4 : s0 = 1
            · have d4 : (s0 == 1) = true := by rw [beq_iff_eq]; exact e4
              have d4' : (s0 != 1) = false := by rw [bne, d4]; rfl
              have hbn : ∀ k, Below wc.heap.size wc (wc.drewN k) := fun k => below_drewN (Below.refl _ _) k
              replace hbn := Lib.hid hbn
              replace e4 := Lib.hid e4
              clear hs
              go_big_quiet (fail)
              go_wp2_with fail
              go_meet
              case rel => exact ⟨rfl, hbn.out _⟩
            · have d4 : (s0 == 1) = false := by rw [beq_eq_false_iff_ne]; exact e4
              have d4' : (s0 != 1) = true := by rw [bne, d4]; rfl
              have hs := hs e4
              have d5 : (s0 == q.st) = true := by rw [beq_iff_eq]; exact hs.symm
              have d5' : (s0 != q.st) = false := by rw [bne, d5]; rfl
              have hbn : ∀ k, Below wc.heap.size wc (wc.drewN k) := fun k => below_drewN (Below.refl _ _) k
              replace hbn := Lib.hid hbn
              replace e4 := Lib.hid e4
              replace hs := Lib.hid hs
              go_big_quiet (fail)
              go_wp2_with fail
              go_meet
              case rel => exact ⟨rfl, hbn.out _⟩
          · have d3 : decide ((j : Int) < L.length) = false := decide_eq_false (by omega)
            have hbn : ∀ k, Below wc.heap.size wc (wc.drewN k) := fun k => below_drewN (Below.refl _ _) k
            replace hbn := Lib.hid hbn
            go_big_quiet (fail)
            go_wp2_with fail
            go_meet
            case rel => exact ⟨rfl, hbn.out _⟩
        case rest =>
          obtain ⟨rfl, hI⟩ := hcut
          have hbw3 := hb8.trans (hI.mono hb8.size)
          clear cQ cZ hQ hZ8 hp8 hI hb8 hd8
          have hR3 := hkeep hbw3 hR1
          have cR := cells_at hR3
          go_wp2_with fail
          clear cR hR3
          go_loopg [13, 84] D.length (fun g s13 s84 wx => ∃ k : Nat, k ≤ D.length ∧ g = D.length - k ∧ s84 = .int .i64 k ∧ s13 = .int .i64 ((D.take k).count j : Nat) ∧ Below W.heap.size W wx)
          case atStart => exact ⟨0, by omega, rfl, rfl, rfl, hbw3⟩
          case round =>
            clear hbw3
            obtain ⟨k, hk, rfl, rfl, rfl, hbw⟩ := hrel
            by_cases h5 : k < D.length
            · have h5d : decide ((k : Int) < D.length) = true := decide_eq_true (by omega)
              obtain ⟨x, hxk⟩ : ∃ x, D[k]? = some x := ⟨D[k], List.getElem?_eq_getElem h5⟩
              have hxn : (nats D)[k]? = some (x : Int) := by simp [nats, hxk]
              obtain ⟨bd, od, rfl, hbd, hcd⟩ := (hD1.below hbw).row (by rw [nats_len]; omega)
              have cD := hcd k x hxn
              have hct := count_take j hxk
              have hle : (D.take k).count j ≤ k := by
                have h1 := List.count_le_length (a := j) (l := D.take k)
                rw [List.length_take] at h1
                omega
              replace hct := Lib.hid hct
              replace hxk := Lib.hid hxk
              replace hxn := Lib.hid hxn
              clear hcd
              by_cases e1 : x = j
              · have d1 : ((x : Int) == (j : Int)) = true := by rw [beq_iff_eq]; omega
                replace hct := hct.out
                rw [if_pos e1] at hct
                replace hct := Lib.hid hct
                replace e1 := Lib.hid e1
                go_wp2_with fail
                go_roundg (D.length - (k + 1))
                case measure => omega
                case rel => exact ⟨k + 1, by omega, rfl, by go_num, by rw [hct.out]; go_num, hbw⟩
              · have d1 : ((x : Int) == (j : Int)) = false := by rw [beq_eq_false_iff_ne]; omega
                replace hct := hct.out
                rw [if_neg e1] at hct
                replace hct := Lib.hid hct
                replace e1 := Lib.hid e1
                go_wp2_with fail
                go_roundg (D.length - (k + 1))
                case measure => omega
                case rel => exact ⟨k + 1, by omega, rfl, by go_num, by rw [hct.out]; rfl, hbw⟩
            · have h5d : decide ((k : Int) < D.length) = false := decide_eq_false (by omega)
              obtain rfl : k = D.length := by omega
              rw [List.take_length, hcnt.out]
              by_cases e1 : j ∈ D
              · have fin : decide (j ∈ D) = true := decide_eq_true e1
                replace hcs := hcs.out
                rw [if_pos e1] at hcs
                rw [if_pos e1]
                replace hcs := Lib.hid hcs
                replace e1 := Lib.hid e1
                go_wp2_with fail
                go_roundg (l.length - (j + 1))
                case measure => omega
                case rel => exact ⟨j + 1, by omega, rfl, by go_num, by rw [hcs.out]; go_num, hbw⟩
              · have fin : decide (j ∈ D) = false := decide_eq_false e1
                replace hcs := hcs.out
                rw [if_neg e1] at hcs
                rw [if_neg e1]
                replace hcs := Lib.hid hcs
                replace e1 := Lib.hid e1
                go_wp2_with fail
                go_roundg (l.length - (j + 1))
                case measure => omega
                case rel => exact ⟨j + 1, by omega, rfl, by go_num, by rw [hcs.out]; rfl, hbw⟩
    · have h4d : decide ((j : Int) < l.length) = false := decide_eq_false (by omega)
      obtain rfl : j = l.length := by omega
      rw [hall.out]
      have hX9 := hkeep hbw hX0
      have hZ9 := hkeep hbw hZ1
      have hR9 := hkeep hbw hR1
      have hp9 := hp2.below hbw
      have hB9 := hB1.trans (hbw.mono hB1.size)
      have hrl : w.heap.size + 1 ≠ wb := by omega
      go_wp2_with (first | go_skip | (refine ld_row 29 _ rfl rfl _ rfl _ _ _ _ hX9 Try.underlying29 rfl info30 ?_) | (refine st_row 29 _ _ rfl rfl _ rfl _ rfl _ _ hZ9 info30 rfl (hc_one _ _ rfl) ?_; intro w5 hr5 hgr5 hsz5; have cR5 := cells_at ((hgr5.block _ (hlt hR9) (by simp; omega)).trans hR9)))
      go_ret
      exact ⟨rfl, (only_new hB9).trans ((only_grown hgr5).mono fun b _ e => by cases e; rfl), a1, cap1, hr5, payN hp9 hgr5 fun hl b off s e => by have := hpb.out b off s e; omega, fun _ => hpb.out⟩
/-- was holds the payments of the bank behind i acts. -/
def StateJ (wb : Nat) (l : List Deed) (i : Nat) (av : Nat → Prop) (w : World) : Prop := av wb ∧ ∃ X a cap, w.heap[wb]? = some (.cells (hc X (.slice a (Bs l i).l.length cap)) 29 (0, 0)) ∧ PaysAt w a cap (Bs l i).l ∧ (0 < (Bs l i).l.length → ∀ b off s, a = some ⟨b, off, s⟩ → av b)
theorem topStates_looks (base wb : Nat) (l : List Deed) : Looks 38 #[.pointer (some ⟨wb, 0, none⟩)] base (StateJ wb l) l where
  enter := fun args w => by kernel_rfl
  keep := fun i av av' w w' hJ hb ha hs => by
    obtain ⟨h1, X, a, cap, h2, h3, h4⟩ := hJ
    refine ⟨ha _ h1, X, a, cap, (hb wb (.inr h1)).trans h2, ⟨h3.le, h3.capm, h3.room, h3.nil0, fun hl => ?_⟩, fun hl b off s e => ha b (h4 hl b off s e)⟩
    obtain ⟨b, off, e, hbl, hc⟩ := h3.row hl
    exact ⟨b, off, e, Nat.lt_of_lt_of_le hbl hs, fun i p hp j v hv => (World.cell?_of_block (hb b (.inr (h4 hl b off none e)))).trans (hc i p hp j v hv)⟩
  look := fun i d p av v w1 _ hpk hJ hk _ _ _ ho _ => by
    obtain ⟨h1, X, a, cap, h2, h3, h4⟩ := hJ
    have ht := fun hk11 => do_told (Bs l i) d hk11
    rw [do_pair hpk] at ht
    obtain ⟨al, cl, rfl, hil, _⟩ := ho.at_
    rw [nats_len]
    refine (topStates_look p wb av (Bs l (i + 1)) d _ _ _ al cl w1 X a cap _ hk ht (bs_good l (i + 1)).inv.len (bs_good l i).inv.len hil h2 h3).mono fun e w2 ⟨e1, e2, a2, cap2, e3, e4, e5⟩ => ⟨e1, e2.mono fun b _ e => e ▸ h1, .inl h1, _, a2, cap2, e3, e4, fun hl b off s e => .inr ⟨e5 hl b off s e, ?_⟩⟩
    obtain ⟨b', off', e', hbl, _⟩ := e4.row hl
    rw [e] at e'; cases e'; exact hbl
set_option maxRecDepth 100000 in
theorem topStates_any (l : List Deed) (a : Option Addr) (cap : Nat) (w : World) (hl : ActsAt w a cap l) :
    Calls Try.prog 10 #[.slice a l.length cap] w fun e w' => e = .returned (.bool true) ∧ Below w.heap.size w w' := by
  have hlb := lt_of_acts hl
  replace hl := Lib.hid hl
  go_enter Try.func10, Try.ntmps10
  go_upto_region 2 with fail
  generalize hW : World.alloc w _ = W0
  have hZ : W0.heap[w.heap.size]? = some (.cells (hc Hs.zero (.slice none 0 0)) 29 (0, 0)) := by rw [← hW]; exact hnew w _
  have hB0 : Below w.heap.size w W0 := by rw [← hW]; exact (Below.refl _ _).alloc (Nat.le_refl _) _
  have cP := play_any 38 #[.pointer (some ⟨w.heap.size, 0, none⟩)] w.heap.size (StateJ w.heap.size l) l a cap W0 (hl.out.below hB0) hlb hB0.size (topStates_looks _ _ l) ⟨⟨Nat.le_refl _, hlt hZ⟩, Hs.zero, none, 0, hZ, ⟨by simp [bs_zero, Bk.new], by simp, by simp [bs_zero, Bk.new], by simp, by simp [bs_zero, Bk.new]⟩, by simp [bs_zero, Bk.new]⟩
  clear hW hlb
  replace cP := Lib.hid cP
  go_wp2_with (first | go_skip | (go_at_call 19; refine cP.out.mono ?_; rintro e w1 ⟨⟨p, av, rfl, _⟩, hb1⟩))
  go_ret
  exact ⟨rfl, hB0.trans hb1⟩
end Go.Proofs.Ytggfdkkhlokmlab

