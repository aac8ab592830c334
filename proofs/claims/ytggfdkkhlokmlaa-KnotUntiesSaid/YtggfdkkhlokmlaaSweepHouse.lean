/- The reference's SweepHouse: the walk. -/
import Derived.Test.YtggfdkkhlokmlaaSweep
import Derived.Test.YtggfdkkhlokmlaaQueueOf
import Derived.Test.YtggfdkkhlokmlaaLedger2
namespace Go.Proofs.Ytggfdkkhlokmlaa
open Go.RowKit
attribute [local go_sem] hc_pays hc_next hc_size pc_0 pc_1 pc_2 pc_3 pc_4 pc_5
/-- The last n banks were idle: all four are. -/
theorem rests_of_four {S : St} {k : Nat} (h : ∀ j, j < 4 → Idle ((((k + 3 - j) % 4 : Nat)) : Int) (visits k S)) : Rests (visits k S) := by
  intro b hb
  have := h ((k + 3 - b) % 4) (Nat.mod_lt _ (by omega))
  rw [show (k + 3 - (k + 3 - b) % 4) % 4 = b from by omega] at this
  exact this
theorem house_round {S T : St} {k n n' : Nat} (hV : visits (k + 1) S = T) (hI : Idle ((k % 4 : Nat) : Int) T) (hidl : ∀ j, j < n → Idle ((((k + 3 - j) % 4 : Nat)) : Int) (visits k S))
    (hor : (T = visits k S ∧ n' = n + 1) ∨ (n' = 0 ∧ waiting T.l < waiting (visits k S).l)) (hn : n < 4) :
    (∀ j, j < n' → Idle ((((k + 1 + 3 - j) % 4 : Nat)) : Int) (visits (k + 1) S)) ∧ 5 * waiting (visits (k + 1) S).l + (4 - n') < 5 * waiting (visits k S).l + (4 - n) ∧ n' ≤ 4 := by
  rw [hV]
  rcases hor with ⟨hT, rfl⟩ | ⟨rfl, hw⟩
  · refine ⟨fun j hj => ?_, by rw [hT]; omega, by omega⟩
    by_cases e : j = 0
    · subst e
      rw [show (k + 1 + 3 - 0) % 4 = k % 4 from by omega]
      exact hI
    · have := hidl (j - 1) (by omega)
      rw [← hT, show k + 3 - (j - 1) = k + 1 + 3 - j from by omega] at this
      exact this
  · exact ⟨fun j hj => by omega, by omega, by omega⟩
theorem maySend_val {h : Hs} {frm dst amt : Int} {b : Bool} (hb : mayB h frm dst amt = b) (s : Value) (w : World) (hr : h.Room) :
    Calls Try.prog 28 #[.agg (hc h s), .int .i64 frm, .int .i64 dst, .int .i64 amt] w fun e w' => e = .returned (.bool b) ∧ Below w.heap.size w w' := by
  subst hb; exact maySend_any h s frm dst amt w hr
set_option maxRecDepth 100000 in
set_option maxHeartbeats 4000000 in
theorem sweepHouse_good (h : Hs) (l : List Pay) (a : Option Addr) (cap : Nat) (w : World) (hp : PaysAt w a cap l) (hgd : GoodP h l) :
    Calls Try.prog 43 #[.agg (hc h (.slice a l.length cap))] w (SweepPost (sweepS ⟨h, l, []⟩) w) := by
  obtain ⟨i0, z, hi, hz0, hz1, hz2, hz3⟩ := info3z
  have hgb := goodB_yes hgd
  have hlen := hgd.len
  have hnd := hgd.nodup
  have hk0 := Wk.start hgd
  have hpl : ∀ b off s, a = some ⟨b, off, s⟩ → 0 < l.length → b < w.heap.size := fun b off s e hl => by
    obtain ⟨b', off', e', hbl, _⟩ := hp.row hl
    rw [e] at e'; cases e'; exact hbl
  clear hgd
  obtain ⟨S, hS⟩ : ∃ S : St, (⟨h, l, []⟩ : St) = S := ⟨_, rfl⟩
  have hSl : S.l = l := by rw [← hS]
  rw [hS] at hk0 ⊢
  obtain ⟨F, hF⟩ : ∃ F, sweepS S = F := ⟨_, rfl⟩
  rw [hF]
  replace hF := Lib.hid hF
  rw [← hSl] at hnd hlen
  replace hSl := Lib.hid hSl
  replace hS := Lib.hid hS
  replace hnd := Lib.hid hnd
  replace hk0 := Lib.hid hk0
  replace hgb := Lib.hid hgb
  replace hpl := Lib.hid hpl
  replace hp := Lib.hid hp
  go_enter Try.func43, Try.ntmps43
  go_upto_region 1 with fail
  generalize hW : World.alloc (World.alloc w _) _ = W0
  have hgA : W0.heap[w.heap.size]? = some (.cells (hc h (.slice a l.length cap)) 30 (0, 0)) := by rw [← hW]; exact heap_alloc2_old w _ _
  have hgZ : W0.heap[w.heap.size + 1]? = some (.cells (hc Hs.zero (.slice none 0 0)) 30 (0, 0)) := by rw [← hW]; exact heap_alloc2_new w _ _
  have hB : Below w.heap.size w W0 := by rw [← hW]; exact ((Below.refl w.heap.size w).alloc (Nat.le_refl _) _).alloc (by simp) _
  have hp0 := hp.out.below hB
  clear hW
  have hS0 : SwAt w ⟨h, l, []⟩ W0 (.slice none 0 0) := ⟨⟨a, cap, hgA, hp0, fun hl b off s e => by have := hpl.out b off s e hl; exact ⟨by omega, by omega, by simp [Value.ownBlock]⟩⟩, hgZ, OwnInts.nil _ _, hB⟩
  rw [hS.out] at hS0
  replace hS0 := Lib.hid hS0
  go_upto_region 4 with (first | go_skip | (refine ld_row 30 _ rfl rfl _ rfl _ _ _ _ hgA Try.underlying30 rfl info30 ?_) | (go_at_call 17; refine (isHouse_any h l _ cap _ hp0).mono ?_; rintro e w1 ⟨rfl, hb1⟩; rw [hgb.out]))
  have hS1 := hS0.out.later hb1
  replace hS1 := Lib.hid hS1
  clear hgA hgZ hB hp0 hb1
  go_wp2_with fail
  go_loopg [4, 5, 6] (5 * waiting S.l + 4) (fun g s4 s5 s6 wr => ∃ (k n : Nat), n ≤ 4 ∧ g = 5 * waiting (visits k S).l + (4 - n) ∧ s5 = .int .i64 n ∧ s6 = .int .i64 ((k % 4 : Nat) : Int) ∧ (∀ j, j < n → Idle ((((k + 3 - j) % 4 : Nat)) : Int) (visits k S)) ∧ SwAt w (visits k S) wr s4)
  case atStart => exact ⟨0, 0, by omega, rfl, rfl, rfl, fun j hj => by omega, hS1.out⟩
  case round =>
    clear hS1
    obtain ⟨k, n, hn, rfl, rfl, rfl, hidl, hsw⟩ := hrel
    by_cases h4 : n < 4
    · have h4d : decide ((n : Int) < 4) = true := decide_eq_true (by omega)
      obtain ⟨V, eV⟩ : ∃ V, visits (k + 1) S = V := ⟨_, rfl⟩
      have hV0 : V = visit ((k % 4 : Nat) : Int) (visits k S) := eV.symm
      have hwk0 := wk_visits hk0.out hnd.out k
      obtain ⟨m, hm⟩ : ∃ m, k % 4 = m := ⟨_, rfl⟩
      have hm4 : m < 4 := by omega
      have hmod : ((k + 1) % 4 : Nat) = (m + 1) % 4 := by omega
      rw [hm] at hV0 ⊢
      obtain ⟨T0, hT0⟩ : ∃ T0, visits k S = T0 := ⟨_, rfl⟩
      rw [hT0] at hV0 hwk0 hsw
      replace hidl := Lib.hid hidl
      replace eV := Lib.hid eV
      replace hV0 := Lib.hid hV0
      replace hm := Lib.hid hm
      replace hmod := Lib.hid hmod
      replace hT0 := Lib.hid hT0
      replace hwk0 := Lib.hid hwk0
      replace hsw := Lib.hid hsw
      go_wp2_with fail
      go_loopg [4, 5, 7] (waiting T0.l) (fun g s4 s5 s7 wr => ∃ (T : St) (n' : Nat), g = waiting T.l ∧ Wk S T ∧ V = visit (m : Int) T ∧ s5 = .int .i64 n' ∧ ((T = visits k S ∧ n' = n + 1) ∨ (n' = 0 ∧ waiting T.l < waiting (visits k S).l)) ∧ SwAt w T wr s4)
      case atStart => exact ⟨T0, n + 1, rfl, hwk0.out, hV0.out, by go_num, .inl ⟨hT0.out.symm, rfl⟩, hsw.out⟩
      case round =>
        clear hsw hwk0 hV0 hT0
        obtain ⟨T, n', rfl, hwk, hV1, rfl, hor, hsw⟩ := hrel
        have hroom := hwk.room hlen
        have hdl : T.d.length ≤ 24 := by have := hwk.few; omega
        replace hwk := Lib.hid hwk
        replace hV1 := Lib.hid hV1
        replace hor := Lib.hid hor
        have hsw0 := Lib.hid hsw
        obtain ⟨⟨a1, cap1, hA, hpx, hap⟩, hZ, hown, hbx⟩ := hsw
        replace hpx := Lib.hid hpx
        replace hown := Lib.hid hown
        replace hap := Lib.hid hap
        go_upto_region 10 with (first | go_skip | (refine ld_row 30 _ rfl rfl _ rfl _ _ _ _ hA Try.underlying30 rfl info30 ?_) | (go_at_call 47; refine (queueOf_any T.h T.l a1 cap1 (m : Int) _ hpx.out).mono ?_; rintro e w1 ⟨⟨v, xs, rfl, hq, hxo⟩, hb1⟩))
        have hxs := hq.eq (hwk.out.nodup hnd.out)
        have hls : LsAt w u4 xs w1 v := LsAt.own hxo (by have := hlt hZ; omega) (fun x hx => hown.out.ownlt hx)
        have hsw1 := hsw0.out.later hb1
        have hA1 := hkeep hb1 hA
        have hpx1 := hpx.out.below hb1
        have hown1 := Lib.hid (hown.out.below hb1)
        replace hsw1 := Lib.hid hsw1
        clear hA hpx hap hZ hown hbx hq hxo hb1 hsw0
        cases xs with
        | nil =>
          obtain ⟨al, cal, rfl, hil, _⟩ := hls
          have hI2 : Idle ((k % 4 : Nat) : Int) T := fun i xs h => by rw [hm.out, ← hxs] at h; cases h
          have hVV : visits (k + 1) S = T := by rw [eV.out, hV1.out, visit_nil hxs.symm]
          replace hVV := Lib.hid hVV
          replace hxs := Lib.hid hxs
          replace hil := Lib.hid hil
          replace hI2 := Lib.hid hI2
          replace hpx1 := Lib.hid hpx1
          go_wp2_with fail
          go_big_quiet (fail)
          have hsw2 := hsw1.out.later (below_drewN (Below.refl _ _) nq)
          replace hsw2 := Lib.hid hsw2
          have hfin := house_round (n' := n') (hVV.out) hI2.out hidl.out hor.out h4
          obtain ⟨f1, f2, f3⟩ := hfin
          replace f1 := Lib.hid f1
          replace f2 := Lib.hid f2
          go_wp2_with fail
          go_roundg (5 * waiting (visits (k + 1) S).l + (4 - n'))
          case measure => exact f2.out
          case rel => exact ⟨k + 1, n', f3, rfl, rfl, by rw [hmod.out]; go_num, f1.out, by rw [hVV.out]; exact hsw2.out⟩
        | cons i ys =>
          obtain ⟨bl, ol, cal, rfl, hli, hcl1, hcl2, hlap⟩ := hls.head
          obtain ⟨hiT, hst, hfr⟩ := (ofL_mem (l := T.l) (bank := (m : Int)) (i := i)).1 (by rw [← hxs]; simp)
          have hpi := payAt_get hiT
          obtain ⟨p, ep⟩ : ∃ p, payAt T.l i = p := ⟨_, rfl⟩
          rw [ep] at hpi hst hfr
          have hmay : T.may i = mayB T.h (m : Int) p.to p.amt := by simp only [St.may, ep, hfr]
          obtain ⟨bp, op, rfl, hbl, _⟩ := hpx1.row (by omega)
          have hcx := calm_cells hA1
          have hlx : ∀ x : Wd (Below w1.heap.size w1), x.w.cell? ⟨bl, ol, none⟩ = some (.int .i64 i) := fun x => (x.ok.cell (p := ⟨bl, ol, none⟩) (World.block_lt_of_cell? _ _ hli)).trans hli
          have hp1 : ∀ x : Wd (Below w1.heap.size w1), x.w.cell? ⟨bp, op + i * 6 + 1, none⟩ = some (.int .i64 p.to) := fun x => ((hpx1.below x.ok).six hpi).2.1
          have hp2 : ∀ x : Wd (Below w1.heap.size w1), x.w.cell? ⟨bp, op + i * 6 + 2, none⟩ = some (.int .i64 p.amt) := fun x => ((hpx1.below x.ok).six hpi).2.2.1
          have hml : (T.l.length : Int) ≤ 9223372036854775807 := by have h1 := hpx1.le; have h2 := hpx1.capm; unfold maxLen at h2; omega
          have hii : (i : Int) < (T.l.length : Int) := by omega
          have hy0 : (0 : Int) < ((ys.length : Nat) : Int) + 1 := by omega
          have hyz : (((ys.length : Nat) : Int) + 1 == 0) = false := by rw [beq_eq_false_iff_ne]; omega
          have hls1 := Lib.hid hls
          replace hxs := Lib.hid hxs
          replace ep := Lib.hid ep
          replace hpi := Lib.hid hpi
          replace hst := Lib.hid hst
          replace hfr := Lib.hid hfr
          replace hls := Lib.hid hls
          replace hpx1 := Lib.hid hpx1
          cases hmy : T.may i
          · have hmy2 := hmay.symm.trans hmy
            have hI2 : Idle ((k % 4 : Nat) : Int) T := fun j zs h => by rw [hm.out, ← hxs.out] at h; cases h; exact hmy
            have hVV : visits (k + 1) S = T := by rw [eV.out, hV1.out, visit_no hxs.out.symm hmy]
            replace hVV := Lib.hid hVV
            replace hI2 := Lib.hid hI2
            replace hmy := Lib.hid hmy
            replace hmy2 := Lib.hid hmy2
            replace hmay := Lib.hid hmay
            refine calm_region (Below w1.heap.size w1) (by kernel_rfl) (by kernel_rfl) (calm_start w1) ?_
            repeat (first | go_big_quiet_skip | (go_big_quiet_want; first | (refine calm_row 30 _ rfl _ rfl _ _ _ _ (calm_heap hA1) Try.underlying30 rfl info30 ?_; (try simp only [Act.put]); (try simp only [List.setIfInBounds_toArray]); (try simp only [List.set_cons_succ]); (try simp only [List.set_cons_zero]); go_big_quiet_on) | (go_big_quiet_op; first | go_big_quiet_on | go_big_quiet_call (first | (go_at_call 28; exact calm_call (calm_below _) (maySend_val hmy2.out _ _ hroom))))))
            refine wpQuiet_nil ?_
            intro w2 hI
            have hsw2 := hsw1.out.later hI
            replace hsw2 := Lib.hid hsw2
            clear hcx hlx hp1 hp2
            have hfin := house_round (n' := n') (hVV.out) hI2.out hidl.out hor.out h4
            obtain ⟨f1, f2, f3⟩ := hfin
            replace f1 := Lib.hid f1
            replace f2 := Lib.hid f2
            go_wp2_with fail
            go_roundg (5 * waiting (visits (k + 1) S).l + (4 - n'))
            case measure => exact f2.out
            case rel => exact ⟨k + 1, n', f3, rfl, rfl, by rw [hmod.out]; go_num, f1.out, by rw [hVV.out]; exact hsw2.out⟩
          · have hmy2 := hmay.symm.trans hmy
            have hVT : V = visit (m : Int) (T.settle i) := by rw [hV1.out, visit_yes (hwk.out.nodup hnd.out) hxs.out.symm hmy]
            have hwt := waiting_settled hiT (by rw [ep.out]; exact hst.out)
            have hwk2 := hwk.out.settle hiT (by rw [ep.out]; exact hst.out)
            have hdn : nats (T.settle i).d = nats T.d ++ [(i : Int)] := by simp [nats, St.settle]
            have hwl : waiting (T.settle i).l < waiting (visits k S).l := by
              show waiting (settled T.l i) < _
              rcases hor.out with ⟨h, _⟩ | ⟨_, h⟩
              · rw [← h]; omega
              · omega
            have hwm : waiting (T.settle i).l < waiting T.l := by show waiting (settled T.l i) < _; omega
            replace hmy := Lib.hid hmy
            replace hmy2 := Lib.hid hmy2
            replace hmay := Lib.hid hmay
            replace hVT := Lib.hid hVT
            replace hwt := Lib.hid hwt
            replace hwk2 := Lib.hid hwk2
            replace hdn := Lib.hid hdn
            replace hwl := Lib.hid hwl
            refine calm_region (Below w1.heap.size w1) (by kernel_rfl) (by kernel_rfl) (calm_start w1) ?_
            repeat (first | go_big_quiet_skip | (go_big_quiet_want; first | (refine calm_row 30 _ rfl _ rfl _ _ _ _ (calm_heap hA1) Try.underlying30 rfl info30 ?_; (try simp only [Act.put]); (try simp only [List.setIfInBounds_toArray]); (try simp only [List.set_cons_succ]); (try simp only [List.set_cons_zero]); go_big_quiet_on) | (go_big_quiet_op; first | go_big_quiet_on | go_big_quiet_call (first | (go_at_call 28; exact calm_call (calm_below _) (maySend_val hmy2.out _ _ hroom))))))
            refine wpQuiet_nil ?_
            intro w2 hI
            have hsw2 := Lib.hid (hsw1.out.later hI)
            have hls2 := Lib.hid (hls1.out.later hI)
            have hA2 := Lib.hid (hkeep hI hA1)
            have hpx2 := hpx1.out.below hI
            have hli2 := hlx ⟨w2, hI⟩
            have cS : ∀ w', Below w2.heap.size w2 w' → Calls Try.prog 49 #[.agg (hc T.h (.slice (some ⟨bp, op, none⟩) T.l.length cap1)), .int .i64 i] w' fun e w3 => ∃ a2 cap2, e = .returned (.agg (hc (T.settle i).h (.slice a2 T.l.length cap2))) ∧ PaysAt w3 a2 cap2 (settled T.l i) ∧ (∀ b off s, a2 = some ⟨b, off, s⟩ → w2.heap.size ≤ b) ∧ Below w'.heap.size w' w3 := fun w' hb =>
              (settlePay_yes T.h T.l (some ⟨bp, op, none⟩) cap1 i w' (hpx2.below hb) hroom hiT (by rw [ep.out]; exact hst.out)).mono fun e w3 ⟨⟨a2, cap2, he, hp2, hf2⟩, hb2⟩ => ⟨a2, cap2, by rw [settled_len] at he; exact he, hp2, fun b off s e => Nat.le_trans hb.size (hf2 b off s e), hb2⟩
            have hcI : ∀ w', Below w2.heap.size w2 w' → w'.cell? ⟨bl, ol, none⟩ = some (.int .i64 i) := fun w' hb => (hb.cell (p := ⟨bl, ol, none⟩) (World.block_lt_of_cell? _ _ hli2)).trans hli2
            replace cS := Lib.hid cS
            replace hcI := Lib.hid hcI
            clear hcx hlx hp1 hp2 hpx2 hI hli2 hA1 hli hsw1 hls1 hown1
            go_upto_region 11 with fail
            refine wpG_start (Below w2.heap.size w2) 4 (by kernel_rfl) ?_
            have hI0 : Below w2.heap.size w2 w2.drew := (Below.refl _ _).drew
            refine wpG_first (i := 0) (oi := _) (v := (.agg (hc T.h (.slice (some ⟨bp, op, none⟩) T.l.length cap1)))) [0] rfl (by kernel_rfl) (by kernel_rfl) (by kernel_rfl) (by kernel_rfl) (fun _ _ _ h => h) hI0 ?hy0 ?rs0
            case hy0 => exact yields_row 30 _ rfl rfl _ rfl _ _ _ _ (fun w' hb => hkeep hb hA2.out) Try.underlying30 rfl info30
            (try simp only [Act.put]); (try simp only [List.setIfInBounds_toArray]); (try simp only [List.set_cons_succ]); (try simp only [List.set_cons_zero]); (try simp only [List.size_toArray])
            refine wpG_first (i := 1) (oi := _) (v := (.slice (some ⟨bl, ol, none⟩) (ys.length + 1) cal)) [3, 2, 1] rfl (by kernel_rfl) (by kernel_rfl) (by kernel_rfl) (by kernel_rfl) (fun _ _ _ h => h) hI0 ?hy1 ?rs1
            case hy1 => exact Or.inl ⟨by rfl, by intro w' hb; have hcw := hcI.out w' hb; go_simp⟩
            (try simp only [Act.put]); (try simp only [List.setIfInBounds_toArray]); (try simp only [List.set_cons_succ]); (try simp only [List.set_cons_zero]); (try simp only [List.size_toArray])
            refine wpG_first (i := 2) (oi := _) (v := (.pointer (some ⟨bl, ol, none⟩))) [3, 2] rfl (by kernel_rfl) (by kernel_rfl) (by kernel_rfl) (by kernel_rfl) (fun _ _ _ h => h) hI0 ?hy2 ?rs2
            case hy2 => exact Or.inl ⟨by rfl, by intro w' hb; have hcw := hcI.out w' hb; go_simp⟩
            (try simp only [Act.put]); (try simp only [List.setIfInBounds_toArray]); (try simp only [List.set_cons_succ]); (try simp only [List.set_cons_zero]); (try simp only [List.size_toArray])
            refine wpG_first (i := 3) (oi := _) (v := (.int .i64 i)) [3] rfl (by kernel_rfl) (by kernel_rfl) (by kernel_rfl) (by kernel_rfl) (fun _ _ _ h => h) hI0 ?hy3 ?rs3
            case hy3 => exact Or.inl ⟨by rfl, by intro w' hb; have hcw := hcI.out w' hb; go_simp⟩
            (try simp only [Act.put]); (try simp only [List.setIfInBounds_toArray]); (try simp only [List.set_cons_succ]); (try simp only [List.set_cons_zero]); (try simp only [List.size_toArray])
            refine wpG_drop 4 rfl (by kernel_rfl) ?_
            simp only [List.drop_succ_cons, List.drop_zero]
            go_upto_region 12 with (first | go_skip | (go_at_call 49; refine (cS.out _ hI0).mono ?_; rintro e w3 ⟨a2, cap2, rfl, hp2, hf2, hb2⟩) | (refine st_row 30 _ _ rfl rfl _ rfl _ rfl _ _ (hkeep (hI0.trans (hb2.mono hI0.size)) hA2.out) info30 rfl (hc_one _ _ rfl) ?_; intro w4 hr4 hgr4 hsz4))
            obtain ⟨hsw4, hls4⟩ := SwAt.stored hsw2.out hls2.out (hI0.trans (hb2.mono hI0.size)) hp2 hf2 hgr4 hr4
            obtain ⟨bl', ol', cal', e', hli4, _, _, _⟩ := hls4.head
            simp only [Value.slice.injEq, Option.some.injEq, Addr.mk.injEq] at e'
            obtain ⟨⟨rfl, rfl, _⟩, _, rfl⟩ := e'
            have hoX := Lib.hid (hsw4.done.alloc (.cells #[.int .i64 (i : Int)] 3))
            have hsX := Lib.hid (hsw4.later ((Below.refl _ _).alloc (Nat.le_refl _) (.cells #[.int .i64 (i : Int)] 3)))
            have hsz5 := hsw4.below.size
            have hz5 := hlt hsw4.res
            replace hsw4 := Lib.hid hsw4
            replace hls4 := Lib.hid hls4
            clear hr4 hgr4 hsz4 hp2 hf2 hb2
            go_wp2_with (first | go_skip | (at_builtin; refine wpList_append_fresh _ rfl _ _ 54 rfl (w.heap.size + 2) 3 i0 z 1 8 Try.underlying54 hi hz0 hz1 hz2 hz3 (by decide) u4 (nats T.d).length (icells (nats T.d)) rfl hoX.out.1 ⟨w4.heap.size, 0, none⟩ 1 1 [.int .i64 (i : Int)] rfl rfl ?c1 ?c2 ?c3 ?c4 ?c5 ?_))
            case c2 => rfl
            case c3 => rw [nats_len]; simp only [maxLen]; omega
            case c4 => rw [nats_len]; omega
            case c5 => omega
            intro v' w5 hownv hgr hv
            have hO3 : OwnInts w5 (w.heap.size + 2) v' (nats (T.d ++ [i])) := by
              have : nats (T.d ++ [i]) = nats T.d ++ [(i : Int)] := hdn.out
              rw [this]
              exact OwnInts.snoc rfl (by rw [nats_len]; omega) hownv
            have hsw5 : SwAt w (T.settle i) w5 v' := SwAt.noted hsX.out hgr hO3 (fun x hx => by first | exact hv x hx | simpa using hv x hx)
            replace hownv := Lib.hid hownv
            replace hsw5 := Lib.hid hsw5
            clear hgr hv hO3
            go_wp2_with fail
            go_roundg (waiting (T.settle i).l)
            case measure => exact hwm
            case rel => exact ⟨T.settle i, 0, rfl, hwk2.out, hVT.out, rfl, .inr ⟨rfl, hwl.out⟩, hsw5.out⟩
    · obtain rfl : n = 4 := by omega
      have hR := rests_of_four hidl
      have hfin := sweep_of_rests hnd.out hR
      obtain ⟨T, hT⟩ : ∃ T, visits k S = T := ⟨_, rfl⟩
      rw [hT] at hsw hfin
      rw [hF.out] at hfin
      subst hfin
      replace hT := Lib.hid hT
      obtain ⟨⟨a1, cap1, hA, hpx, hap⟩, hZ, hown, hbx⟩ := hsw
      have hl1 := hlt hZ
      replace hpx := Lib.hid hpx
      replace hown := Lib.hid hown
      clear hidl hR
      go_wp2_with (first | go_skip | (refine ld_row 30 _ rfl rfl _ rfl _ _ _ _ hA Try.underlying30 rfl info30 ?_) | (refine st_row 30 _ _ rfl rfl _ rfl _ rfl _ _ hZ info30 rfl (hc_one _ _ rfl) ?_; intro w5 hr5 hgr5 hsz5))
      refine bodyPost_ret (results_house2 rfl _ _ _ _ _ rfl hr5) rfl ⟨⟨a1, cap1, u4, rfl, ?_, ?_⟩, ?_⟩
      · exact hpx.out.grownO hgr5 hap
      · exact (hown.out.grownP hgr5 (by omega)).mono (by omega)
      · exact hbx.grown hgr5 hbx.size fun k hk => by cases hk; omega
end Go.Proofs.Ytggfdkkhlokmlaa
