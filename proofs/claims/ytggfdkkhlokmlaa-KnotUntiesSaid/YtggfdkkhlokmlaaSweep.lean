/- queue.Sweep: the walk. -/
import Derived.Test.YtggfdkkhlokmlaaSweepAt
import Derived.Deep.RegionHeld3
import Derived.Deep.Cut
import Derived.Test.YtggfdkkhlokmlaaGate
import Derived.Test.YtggfdkkhlokmlaaAppendF
namespace Go.Proofs.Ytggfdkkhlokmlaa
open Go.RowKit
attribute [local go_sem] hc_pays hc_next hc_size pc_0 pc_1 pc_2 pc_3 pc_4 pc_5
def SweepPost (T : St) (w : World) (e : Ending) (w' : World) : Prop := (∃ a cap v, e = .returned (.tuple #[.agg (hc T.h (.slice a T.l.length cap)), v]) ∧ PaysAt w' a cap T.l ∧ OwnInts w' w.heap.size v (nats T.d)) ∧ Below w.heap.size w w'
set_option maxRecDepth 100000 in
set_option maxHeartbeats 4000000 in
theorem sweep_good (h : Hs) (l : List Pay) (a : Option Addr) (cap : Nat) (w : World) (hp : PaysAt w a cap l) (hgd : GoodP h l) :
    Calls Try.prog 42 #[.agg (hc h (.slice a l.length cap))] w (SweepPost (sweepS ⟨h, l, []⟩) w) := by
  obtain ⟨i0, z, hi, hz0, hz1, hz2, hz3⟩ := info3z
  have hgb := goodB_yes hgd
  have hlen := hgd.len
  have hnd := hgd.nodup
  have hk0 := Wk.start hgd
  have hpl : ∀ b off s, a = some ⟨b, off, s⟩ → 0 < l.length → b < w.heap.size := fun b off s e hl => by
    obtain ⟨b', off', e', hbl, _⟩ := hp.row hl
    rw [e] at e'; cases e'; exact hbl
  clear hgd
  obtain ⟨S, hS⟩ : ∃ S : St, (⟨h, l, []⟩ : St) = S := ⟨_, rfl⟩
  have hSl : S.l = l := by rw [← hS]
  rw [hS] at hk0 ⊢
  obtain ⟨F, hF⟩ : ∃ F, sweepS S = F := ⟨_, rfl⟩
  rw [hF]
  replace hF := Lib.hid hF
  rw [← hSl] at hnd hlen
  replace hSl := Lib.hid hSl
  replace hS := Lib.hid hS
  replace hnd := Lib.hid hnd
  replace hk0 := Lib.hid hk0
  replace hgb := Lib.hid hgb
  replace hpl := Lib.hid hpl
  replace hp := Lib.hid hp
  go_enter Try.func42, Try.ntmps42
  go_upto_region 1 with fail
  generalize hW : World.alloc (World.alloc w _) _ = W0
  have hgA : W0.heap[w.heap.size]? = some (.cells (hc h (.slice a l.length cap)) 30 (0, 0)) := by rw [← hW]; exact heap_alloc2_old w _ _
  have hgZ : W0.heap[w.heap.size + 1]? = some (.cells (hc Hs.zero (.slice none 0 0)) 30 (0, 0)) := by rw [← hW]; exact heap_alloc2_new w _ _
  have hB : Below w.heap.size w W0 := by rw [← hW]; exact ((Below.refl w.heap.size w).alloc (Nat.le_refl _) _).alloc (by simp) _
  have hp0 := hp.out.below hB
  clear hW
  have hS0 : SwAt w ⟨h, l, []⟩ W0 (.slice none 0 0) := ⟨⟨a, cap, hgA, hp0, fun hl b off s e => by have := hpl.out b off s e hl; exact ⟨by omega, by omega, by simp [Value.ownBlock]⟩⟩, hgZ, OwnInts.nil _ _, hB⟩
  rw [hS.out] at hS0
  replace hS0 := Lib.hid hS0
  go_upto_region 4 with (first | go_skip | (refine ld_row 30 _ rfl rfl _ rfl _ _ _ _ hgA Try.underlying30 rfl info30 ?_) | (go_at_call 16; refine (good_any h l _ cap _ hp0).mono ?_; rintro e w1 ⟨rfl, hb1⟩; rw [hgb.out]))
  have hS1 := hS0.out.later hb1
  replace hS1 := Lib.hid hS1
  clear hgA hgZ hB hp0 hb1
  go_wp2_with fail
  go_loopg [4, 5] (2 * waiting S.l + 1) (fun g s4 s5 wr => ∃ (r : Nat) (b : Bool), g = 2 * waiting (visits (4 * r) S).l + (if b then 1 else 0) ∧ s5 = .bool b ∧ (b = false → Rests (visits (4 * r) S)) ∧ SwAt w (visits (4 * r) S) wr s4)
  case atStart => exact ⟨0, true, rfl, rfl, (fun h => by cases h), hS1.out⟩
  case round =>
    clear hS1
    obtain ⟨r, b, hg, rfl, hrs, hsw⟩ := hrel
    obtain ⟨n0, hn0⟩ : ∃ n0, waiting (visits (4 * r) S).l = n0 := ⟨_, rfl⟩
    rw [hn0] at hg
    replace hn0 := Lib.hid hn0
    cases b
    · have hR := hrs rfl
      have hfin := sweep_of_rests hnd.out hR
      obtain ⟨T, hT⟩ : ∃ T, visits (4 * r) S = T := ⟨_, rfl⟩
      rw [hT] at hsw hfin
      rw [hF.out] at hfin
      subst hfin
      replace hT := Lib.hid hT
      obtain ⟨⟨a1, cap1, hA, hpx, hap⟩, hZ, hown, hbx⟩ := hsw
      have hl1 := hlt hZ
      replace hpx := Lib.hid hpx
      replace hown := Lib.hid hown
      clear hrs hR hg
      go_wp2_with (first | go_skip | (refine ld_row 30 _ rfl rfl _ rfl _ _ _ _ hA Try.underlying30 rfl info30 ?_) | (refine st_row 30 _ _ rfl rfl _ rfl _ rfl _ _ hZ info30 rfl (hc_one _ _ rfl) ?_; intro w5 hr5 hgr5 hsz5))
      refine bodyPost_ret (results_house2 rfl _ _ _ _ _ rfl hr5) rfl ⟨⟨a1, cap1, u4, rfl, ?_, ?_⟩, ?_⟩
      · exact hpx.out.grownO hgr5 hap
      · exact (hown.out.grownP hgr5 (by omega)).mono (by omega)
      · exact hbx.grown hgr5 hbx.size fun k hk => by cases hk; omega
    · clear hrs
      obtain ⟨wo, rfl⟩ : ∃ wo : World, wo = wr := ⟨_, rfl⟩
      replace hsw := Lib.hid hsw
      go_wp2_with fail
      go_loopg [4, 5, 15] 4 (fun g s4 s5 s15 wr => ∃ (m : Nat) (b : Bool), m ≤ 4 ∧ g = 4 - m ∧ s15 = .int .i64 m ∧ s5 = .bool b ∧ (b = true ↔ waiting (visits (4 * r + m) S).l < n0) ∧ waiting (visits (4 * r + m) S).l ≤ n0 ∧ SwAt w (visits (4 * r + m) S) wr s4)
      case atStart => exact ⟨0, false, by omega, rfl, rfl, rfl, by rw [Nat.add_zero, hn0.out]; simp, by rw [Nat.add_zero, hn0.out]; omega, hsw.out⟩
      case round =>
        clear hsw
        obtain ⟨m, b, hm, rfl, rfl, rfl, hbm, hwl, hsw⟩ := hrel
        by_cases h1 : m < 4
        · have hV := visits_succ S (r := r) h1
          obtain ⟨V, eV⟩ : ∃ V, visits (4 * r + m + 1) S = V := ⟨_, rfl⟩
          have hwk := wk_visits hk0.out hnd.out (4 * r + m)
          rw [eV] at hV
          obtain ⟨T, hT⟩ : ∃ T, visits (4 * r + m) S = T := ⟨_, rfl⟩
          rw [hT] at hsw hbm hwl hV hwk
          replace hT := Lib.hid hT
          replace eV := Lib.hid eV
          replace hV := Lib.hid hV
          replace hwk := Lib.hid hwk
          replace hbm := Lib.hid hbm
          have hsw0 := Lib.hid hsw
          obtain ⟨⟨a1, cap1, hA, hpx, hap⟩, hZ, hown, hbx⟩ := hsw
          replace hpx := Lib.hid hpx
          replace hown := Lib.hid hown
          replace hap := Lib.hid hap
          go_wp2_with (first | go_skip | (refine ld_row 30 _ rfl rfl _ rfl _ _ _ _ hA Try.underlying30 rfl info30 ?_) | (go_at_call 46; refine (of_any T.h T.l a1 cap1 (m : Int) _ hpx.out).mono ?_; rintro e w1 ⟨⟨v, xs, rfl, hq, hxo⟩, hb1⟩))
          have hxs := hq.eq (hwk.out.nodup hnd.out)
          have hls : LsAt w u4 xs w1 v := LsAt.own hxo (by have := hlt hZ; omega) (fun x hx => hown.out.ownlt hx)
          have hsw1 := hsw0.out.later hb1
          replace hxs := Lib.hid hxs
          replace hls := Lib.hid hls
          replace hsw1 := Lib.hid hsw1
          clear hA hpx hap hZ hown hbx hq hxo hb1 hsw0
          go_loopg [4, 5, 7] xs.length (fun g s4 s5 s7 wr => ∃ (T : St) (xs : List Nat) (b : Bool), g = xs.length ∧ Wk S T ∧ V = visit (m : Int) T ∧ xs = ofL T.l (m : Int) ∧ s5 = .bool b ∧ (b = true ↔ waiting T.l < n0) ∧ waiting T.l ≤ n0 ∧ SwAt w T wr s4 ∧ LsAt w s4 xs wr s7)
          case atStart => exact ⟨T, xs, b, rfl, hwk.out, hV.out, hxs.out, rfl, hbm.out, hwl, hsw1.out, hls.out⟩
          case round =>
            clear hls hsw1 hwl hbm hwk hxs hV hT
            obtain ⟨T, xs, b, rfl, hwk, hV, hxs, rfl, hbm, hwl, hsw, hls⟩ := hrel
            cases xs with
            | nil =>
              obtain ⟨al, cal, rfl, hil, _⟩ := hls
              rw [visit_nil hxs.symm] at hV
              subst hV
              replace hxs := Lib.hid hxs
              replace hil := Lib.hid hil
              replace hbm := Lib.hid hbm
              replace hwk := Lib.hid hwk
              replace hsw := Lib.hid hsw
              go_wp2_with fail
              go_roundg (4 - (m + 1))
              case measure => omega
              case rel => exact ⟨m + 1, b, by omega, rfl, by go_num, rfl, by rw [← Nat.add_assoc, eV.out]; exact hbm.out, by rw [← Nat.add_assoc, eV.out]; exact hwl, by rw [← Nat.add_assoc, eV.out]; exact hsw.out⟩
            | cons i ys =>
              obtain ⟨bl, ol, cal, rfl, hli, hcl1, hcl2, hlap⟩ := hls.head
              obtain ⟨hiT, hst, hfr⟩ := (ofL_mem (l := T.l) (bank := (m : Int)) (i := i)).1 (by rw [← hxs]; simp)
              have hroom := hwk.room hlen
              have hpi := payAt_get hiT
              obtain ⟨p, ep⟩ : ∃ p, payAt T.l i = p := ⟨_, rfl⟩
              rw [ep] at hpi hst hfr
              have hmay : T.may i = mayB T.h p.frm p.to p.amt := by simp only [St.may, ep]
              have hsw0 := Lib.hid hsw
              have hls0 := Lib.hid hls
              obtain ⟨⟨a1, cap1, hA, hpx, hap⟩, hZ, hown, hbx⟩ := hsw
              obtain ⟨bp, op, rfl, hbl, _⟩ := hpx.row (by omega)
              obtain ⟨x0, x1, x2, x3, x4, x5⟩ := hpx.six hpi
              have c40 : wr.cell? ⟨w.heap.size, 40, none⟩ = some (.slice (some ⟨bp, op, none⟩) T.l.length cap1) := (cells_at hA 40).trans (hc_pays _ _)
              have hml : (T.l.length : Int) ≤ 9223372036854775807 := by have h1 := hpx.le; have h2 := hpx.capm; unfold maxLen at h2; omega
              have hii : (i : Int) < (T.l.length : Int) := by omega
              have hy0 : (0 : Int) < ((ys.length + 1 : Nat) : Int) := by omega
              have n40 := World.new_ne wr _ c40
              have nli := World.new_ne wr _ hli
              have nx0 := World.new_ne wr _ x0
              have nx1 := World.new_ne wr _ x1
              have nx2 := World.new_ne wr _ x2
              have nx3 := World.new_ne wr _ x3
              have nx4 := World.new_ne wr _ x4
              have nx5 := World.new_ne wr _ x5
              replace hxs := Lib.hid hxs
              replace hbm := Lib.hid hbm
              replace hwk := Lib.hid hwk
              replace hV := Lib.hid hV
              replace ep := Lib.hid ep
              replace hpi := Lib.hid hpi
              replace hst := Lib.hid hst
              replace hfr := Lib.hid hfr
              replace hmay := Lib.hid hmay
              replace hA := Lib.hid hA
              replace hpx := Lib.hid hpx
              replace hZ := Lib.hid hZ
              replace hown := Lib.hid hown
              replace hap := Lib.hid hap
              replace hls := Lib.hid hls
              go_upto_region 12 with fail
              go_cut [8] (fun s8 wx => ∃ gx : Nat, s8 = .pointer (some ⟨gx, 0, none⟩) ∧ wx.heap[gx]? = some (.cells (pc p) 36 (0, 0)) ∧ Below wr.heap.size wr wx)
              case first =>
                go_region_held3 (fun w' => w'.cell? ⟨w.heap.size, 40, none⟩ = some (.slice (some ⟨bp, op, none⟩) T.l.length cap1) ∧ w'.cell? ⟨bl, ol, none⟩ = some (.int .i64 i) ∧ w'.cell? ⟨bp, op + i * 6, none⟩ = some (.int .i64 p.frm) ∧ w'.cell? ⟨bp, op + i * 6 + 1, none⟩ = some (.int .i64 p.to) ∧ w'.cell? ⟨bp, op + i * 6 + 2, none⟩ = some (.int .i64 p.amt) ∧ w'.cell? ⟨bp, op + i * 6 + 3, none⟩ = some (.int .i64 p.cls) ∧ w'.cell? ⟨bp, op + i * 6 + 4, none⟩ = some (.int .i64 p.st) ∧ w'.cell? ⟨bp, op + i * 6 + 5, none⟩ = some (.int .i64 p.seq)) (go_keep) (fail)
                all_goals
                  go_wp2_with fail
                  go_meet
                  case rel => exact ⟨_, rfl, hnew wr (.cells (pc p) 36), ((Below.refl _ _).alloc (Nat.le_refl _) _).drew⟩
              case rest =>
                obtain ⟨gx, rfl, hgx, hbw⟩ := hcut
                have hsw2 := hsw0.out.later hbw
                have hls2 := hls0.out.later hbw
                have hA2 := hkeep hbw hA.out
                have e0 := cells_at hgx 0
                have e1 := cells_at hgx 1
                have e2 := cells_at hgx 2
                rw [pc_0] at e0
                rw [pc_1] at e1
                rw [pc_2] at e2
                replace hsw2 := Lib.hid hsw2
                replace hls2 := Lib.hid hls2
                clear x0 x1 x2 x3 x4 x5 c40 n40 nli nx0 nx1 nx2 nx3 nx4 nx5 hgx
                cases hmy : T.may i
                · have hmy2 := hmay.out.symm.trans hmy
                  have hVT := hV.out
                  rw [visit_no hxs.out.symm hmy] at hVT
                  subst hVT
                  replace hmy := Lib.hid hmy
                  replace hmy2 := Lib.hid hmy2
                  go_wp2_with (first | go_skip | (refine ld_row 30 _ rfl rfl _ rfl _ _ _ _ hA2 Try.underlying30 rfl info30 ?_) | (go_at_call 27; refine (may_any V.h _ p.frm p.to p.amt _ hroom).mono ?_; rintro e w1 ⟨rfl, hb1⟩; rw [hmy2.out]))
                  have hsw3 := hsw2.out.later hb1
                  go_roundg (4 - (m + 1))
                  case measure => omega
                  case rel => exact ⟨m + 1, b, by omega, rfl, by go_num, rfl, by rw [← Nat.add_assoc, eV.out]; exact hbm.out, by rw [← Nat.add_assoc, eV.out]; exact hwl, by rw [← Nat.add_assoc, eV.out]; exact hsw3⟩
                · have hmy2 := hmay.out.symm.trans hmy
                  have hVT := hV.out
                  rw [visit_yes (hwk.out.nodup hnd.out) hxs.out.symm hmy] at hVT
                  have hwt := waiting_settled hiT (by rw [ep.out]; exact hst.out)
                  have hwk2 := hwk.out.settle hiT (by rw [ep.out]; exact hst.out)
                  have hys : ys = ofL (T.settle i).l (m : Int) := (ofL_settled (hwk.out.nodup hnd.out) hxs.out.symm).symm
                  have hdn : nats (T.settle i).d = nats T.d ++ [(i : Int)] := by simp [nats, St.settle]
                  have hdl : T.d.length ≤ 24 := by have := hwk.out.few; omega
                  replace hmy := Lib.hid hmy
                  replace hmy2 := Lib.hid hmy2
                  replace hVT := Lib.hid hVT
                  replace hwt := Lib.hid hwt
                  replace hwk2 := Lib.hid hwk2
                  replace hys := Lib.hid hys
                  replace hdn := Lib.hid hdn
                  go_upto_region 14 with (first | go_skip | (refine ld_row 30 _ rfl rfl _ rfl _ _ _ _ hA2 Try.underlying30 rfl info30 ?_) | (go_at_call 27; refine (may_any T.h _ p.frm p.to p.amt _ hroom).mono ?_; rintro e w1 ⟨rfl, hb1⟩; rw [hmy2.out]))
                  have hsw3 := Lib.hid (hsw2.out.later hb1)
                  have hls3 := Lib.hid (hls2.out.later hb1)
                  have hA3 := Lib.hid (hkeep hb1 hA2)
                  have hpx3 := (hpx.out.below hbw).below hb1
                  have hown3 := Lib.hid ((hown.out.below hbw).below hb1)
                  have cS : ∀ w', Below w1.heap.size w1 w' → Calls Try.prog 48 #[.agg (hc T.h (.slice (some ⟨bp, op, none⟩) T.l.length cap1)), .int .i64 i] w' fun e w2 => ∃ a2 cap2, e = .returned (.agg (hc (T.settle i).h (.slice a2 T.l.length cap2))) ∧ PaysAt w2 a2 cap2 (settled T.l i) ∧ (∀ b off s, a2 = some ⟨b, off, s⟩ → w1.heap.size ≤ b) ∧ Below w'.heap.size w' w2 := fun w' hb =>
                    (settle_yes T.h T.l (some ⟨bp, op, none⟩) cap1 i w' (hpx3.below hb) hroom hiT (by rw [ep.out]; exact hst.out)).mono fun e w2 ⟨⟨a2, cap2, he, hp2, hf2⟩, hb2⟩ => ⟨a2, cap2, by rw [settled_len] at he; exact he, hp2, fun b off s e => Nat.le_trans hb.size (hf2 b off s e), hb2⟩
                  replace cS := Lib.hid cS
                  replace hpx3 := Lib.hid hpx3
                  have hli3 := Lib.hid ((hbw.trans (hb1.mono hbw.size)).cell (p := ⟨bl, ol, none⟩) (World.block_lt_of_cell? _ _ hli) |>.trans hli)
                  clear hsw2 hls2 hA2 hb1 hbw e0 e1 e2 hsw0 hls0
                  go_cut [4, 5] (fun s4 s5 wx => s5 = .bool true ∧ SwAt w (T.settle i) wx s4 ∧ LsAt w s4 (i :: ys) wx (.slice (some ⟨bl, ol, none⟩) (ys.length + 1) cal))
                  case first =>
                    refine wpG_start (Below w1.heap.size w1) 10 (by kernel_rfl) ?_
                    have hI0 : Below w1.heap.size w1 w1.drew := (Below.refl _ _).drew
                    have hcI : ∀ w', Below w1.heap.size w1 w' → w'.cell? ⟨bl, ol, none⟩ = some (.int .i64 i) := fun w' hb => (hb.cell (p := ⟨bl, ol, none⟩) (World.block_lt_of_cell? _ _ hli3.out)).trans hli3.out
                    replace hcI := Lib.hid hcI
                    refine wpG_first (i := 0) (oi := _) (v := (.agg (hc T.h (.slice (some ⟨bp, op, none⟩) T.l.length cap1)))) [4, 0] rfl (by kernel_rfl) (by kernel_rfl) (by kernel_rfl) (by kernel_rfl) (fun _ _ _ h => h) hI0 ?hy0 ?rs0
                    case hy0 => exact yields_row 30 _ rfl rfl _ rfl _ _ _ _ (fun w' hb => hkeep hb hA3.out) Try.underlying30 rfl info30
                    (try simp only [Act.put]); (try simp only [List.setIfInBounds_toArray]); (try simp only [List.set_cons_succ]); (try simp only [List.set_cons_zero]); (try simp only [List.size_toArray])
                    refine wpG_first (i := 1) (oi := _) (v := (.slice (some ⟨bl, ol, none⟩) (ys.length + 1) cal)) [4, 3, 2, 1] rfl (by kernel_rfl) (by kernel_rfl) (by kernel_rfl) (by kernel_rfl) (fun _ _ _ h => h) hI0 ?hy1 ?rs1
                    case hy1 => exact Or.inl ⟨by rfl, by intro w' hb; have hcw := hcI.out w' hb; go_simp⟩
                    (try simp only [Act.put]); (try simp only [List.setIfInBounds_toArray]); (try simp only [List.set_cons_succ]); (try simp only [List.set_cons_zero]); (try simp only [List.size_toArray])
                    refine wpG_first (i := 2) (oi := _) (v := (.pointer (some ⟨bl, ol, none⟩))) [4, 3, 2] rfl (by kernel_rfl) (by kernel_rfl) (by kernel_rfl) (by kernel_rfl) (fun _ _ _ h => h) hI0 ?hy2 ?rs2
                    case hy2 => exact Or.inl ⟨by rfl, by intro w' hb; have hcw := hcI.out w' hb; go_simp⟩
                    (try simp only [Act.put]); (try simp only [List.setIfInBounds_toArray]); (try simp only [List.set_cons_succ]); (try simp only [List.set_cons_zero]); (try simp only [List.size_toArray])
                    refine wpG_first (i := 3) (oi := _) (v := (.int .i64 i)) [4, 3] rfl (by kernel_rfl) (by kernel_rfl) (by kernel_rfl) (by kernel_rfl) (fun _ _ _ h => h) hI0 ?hy3 ?rs3
                    case hy3 => exact Or.inl ⟨by rfl, by intro w' hb; have hcw := hcI.out w' hb; go_simp⟩
                    (try simp only [Act.put]); (try simp only [List.setIfInBounds_toArray]); (try simp only [List.set_cons_succ]); (try simp only [List.set_cons_zero]); (try simp only [List.size_toArray])
                    refine wpG_first (i := 5) (oi := _) (v := u4) [5] rfl (by kernel_rfl) (by kernel_rfl) (by kernel_rfl) (by kernel_rfl) (fun _ _ _ h => h) hI0 ?hy5 ?rs5
                    case hy5 => exact Or.inl ⟨by rfl, by intro w' hb; have hcw := hcI.out w' hb; go_simp⟩
                    (try simp only [Act.put]); (try simp only [List.setIfInBounds_toArray]); (try simp only [List.set_cons_succ]); (try simp only [List.set_cons_zero]); (try simp only [List.size_toArray])
                    refine wpG_first (i := 6) (oi := _) (v := (.slice (some ⟨bl, ol, none⟩) (ys.length + 1) cal)) [9, 8, 7, 6] rfl (by kernel_rfl) (by kernel_rfl) (by kernel_rfl) (by kernel_rfl) (fun _ _ _ h => h) hI0 ?hy6 ?rs6
                    case hy6 => exact Or.inl ⟨by rfl, by intro w' hb; have hcw := hcI.out w' hb; go_simp⟩
                    (try simp only [Act.put]); (try simp only [List.setIfInBounds_toArray]); (try simp only [List.set_cons_succ]); (try simp only [List.set_cons_zero]); (try simp only [List.size_toArray])
                    refine wpG_first (i := 7) (oi := _) (v := (.pointer (some ⟨bl, ol, none⟩))) [9, 8, 7] rfl (by kernel_rfl) (by kernel_rfl) (by kernel_rfl) (by kernel_rfl) (fun _ _ _ h => h) hI0 ?hy7 ?rs7
                    case hy7 => exact Or.inl ⟨by rfl, by intro w' hb; have hcw := hcI.out w' hb; go_simp⟩
                    (try simp only [Act.put]); (try simp only [List.setIfInBounds_toArray]); (try simp only [List.set_cons_succ]); (try simp only [List.set_cons_zero]); (try simp only [List.size_toArray])
                    refine wpG_first (i := 8) (oi := _) (v := (.int .i64 i)) [9, 8] rfl (by kernel_rfl) (by kernel_rfl) (by kernel_rfl) (by kernel_rfl) (fun _ _ _ h => h) hI0 ?hy8 ?rs8
                    case hy8 => exact Or.inl ⟨by rfl, by intro w' hb; have hcw := hcI.out w' hb; go_simp⟩
                    (try simp only [Act.put]); (try simp only [List.setIfInBounds_toArray]); (try simp only [List.set_cons_succ]); (try simp only [List.set_cons_zero]); (try simp only [List.size_toArray])
                    refine wpG_two (i := 4) (j := 9) (by kernel_rfl) rfl rfl ?_ ?_
                    · go_wp2_with (go_at_call 48; refine (cS.out _ hI0).mono ?_; rintro e w2 ⟨a2, cap2, rfl, hp2, hf2, hb2⟩)
                      have hI2 : Below w1.heap.size w1 w2 := hI0.trans (hb2.mono hI0.size)
                      refine ⟨hI2, ?_⟩
                      (try simp only [Act.put]); (try simp only [List.setIfInBounds_toArray]); (try simp only [List.set_cons_succ]); (try simp only [List.set_cons_zero]); (try simp only [List.size_toArray])
                      refine wpG_one (i := 9) (by kernel_rfl) rfl ?_
                      go_wp2_with fail
                      have hIX := Lib.hid (hI2.alloc hI2.size (.cells #[.int .i64 (i : Int)] 3))
                      have hpX := Lib.hid (hp2.alloc (.cells #[.int .i64 (i : Int)] 3))
                      have hoX := Lib.hid (hown3.out.below hIX.out)
                      refine ⟨hIX.out, ?_⟩
                      (try simp only [Act.put]); (try simp only [List.setIfInBounds_toArray]); (try simp only [List.set_cons_succ]); (try simp only [List.set_cons_zero]); (try simp only [List.size_toArray])
                      refine wpG_drop 10 rfl (by kernel_rfl) ?_
                      simp only [List.drop_succ_cons, List.drop_zero]
                      go_wp2_with (first | go_skip | (at_builtin; refine wpList_append_fresh _ rfl _ _ 54 rfl (w.heap.size + 2) 3 i0 z 1 8 Try.underlying54 hi hz0 hz1 hz2 hz3 (by decide) u4 (nats T.d).length (icells (nats T.d)) rfl hoX.out.1 ⟨w2.heap.size, 0, none⟩ 1 1 [.int .i64 (i : Int)] rfl rfl ?c1 ?c2 ?c3 ?c4 ?c5 ?_))
                      case c1 => exact cell_new1 w2 _ _
                      case c2 => intro u hu; obtain rfl := List.mem_singleton.1 hu; rfl
                      case c3 => rw [nats_len]; simp only [maxLen]; omega
                      case c4 => rw [nats_len]; omega
                      case c5 => have := hIX.out.size; have := hlt hsw3.out.res; omega
                      intro v' w3 hownv hgr hv
                      have hO3 : OwnInts w3 (w.heap.size + 2) v' (nats (T.settle i).d) := by
                        rw [hdn.out]
                        exact OwnInts.snoc rfl (by rw [nats_len]; omega) hownv
                      have hA4 := (hgr.block _ (hlt (hkeep hIX.out hA3.out)) (fun e => by have := hown3.out.own e.symm; omega)).trans (hkeep hIX.out hA3.out)
                      replace hownv := Lib.hid hownv
                      replace hgr := Lib.hid hgr
                      replace hv := Lib.hid hv
                      replace hO3 := Lib.hid hO3
                      go_wp2_with (first | go_skip | (refine st_row 30 _ _ rfl rfl _ rfl _ rfl _ _ hA4 info30 rfl (hc_one _ _ rfl) ?_; intro w4 hr4 hgr4 hsz4))
                      go_meet
                      case rel => exact ⟨rfl, SwAt.step hsw3.out hls3.out hIX.out hpX.out hf2 hgr.out hO3.out (fun x hx => by first | exact hv.out x hx | simpa using hv.out x hx) hgr4 hr4⟩
                    · go_wp2_with fail
                      have hI2 : Below w1.heap.size w1 (w1.drew.alloc (.cells #[.int .i64 (i : Int)] 3)) := hI0.alloc hI0.size _
                      refine ⟨hI2, ?_⟩
                      (try simp only [Act.put]); (try simp only [List.setIfInBounds_toArray]); (try simp only [List.set_cons_succ]); (try simp only [List.set_cons_zero]); (try simp only [List.size_toArray])
                      refine wpG_one (i := 4) (by kernel_rfl) rfl ?_
                      go_wp2_with (go_at_call 48; refine (cS.out _ hI2).mono ?_; rintro e w2 ⟨a2, cap2, rfl, hp2, hf2, hb2⟩)
                      have hIX := Lib.hid (hI2.trans (hb2.mono hI2.size))
                      have hpX := Lib.hid hp2
                      have hoX := Lib.hid (hown3.out.below hIX.out)
                      refine ⟨hIX.out, ?_⟩
                      (try simp only [Act.put]); (try simp only [List.setIfInBounds_toArray]); (try simp only [List.set_cons_succ]); (try simp only [List.set_cons_zero]); (try simp only [List.size_toArray])
                      refine wpG_drop 10 rfl (by kernel_rfl) ?_
                      simp only [List.drop_succ_cons, List.drop_zero]
                      go_wp2_with (first | go_skip | (at_builtin; (refine wpList_append_fresh _ rfl _ _ 54 rfl (w.heap.size + 2) 3 i0 z 1 8 Try.underlying54 hi hz0 hz1 hz2 hz3 (by decide) u4 (nats T.d).length (icells (nats T.d)) rfl hoX.out.1 ⟨w1.heap.size, 0, none⟩ 1 1 [.int .i64 (i : Int)] rfl rfl ?c1 ?c2 ?c3 ?c4 ?c5 ?_)))
                      case c1 => exact cell_newB (w := w1.drew) hb2
                      case c2 => intro u hu; obtain rfl := List.mem_singleton.1 hu; rfl
                      case c3 => rw [nats_len]; simp only [maxLen]; omega
                      case c4 => rw [nats_len]; omega
                      case c5 => have := hIX.out.size; have := hlt hsw3.out.res; omega
                      intro v' w3 hownv hgr hv
                      have hO3 : OwnInts w3 (w.heap.size + 2) v' (nats (T.settle i).d) := by
                        rw [hdn.out]
                        exact OwnInts.snoc rfl (by rw [nats_len]; omega) hownv
                      have hA4 := (hgr.block _ (hlt (hkeep hIX.out hA3.out)) (fun e => by have := hown3.out.own e.symm; omega)).trans (hkeep hIX.out hA3.out)
                      replace hownv := Lib.hid hownv
                      replace hgr := Lib.hid hgr
                      replace hv := Lib.hid hv
                      replace hO3 := Lib.hid hO3
                      go_wp2_with (first | go_skip | (refine st_row 30 _ _ rfl rfl _ rfl _ rfl _ _ hA4 info30 rfl (hc_one _ _ rfl) ?_; intro w4 hr4 hgr4 hsz4))
                      go_meet
                      case rel => exact ⟨rfl, SwAt.step hsw3.out hls3.out hIX.out hpX.out hf2 hgr.out hO3.out (fun x hx => by first | exact hv.out x hx | simpa using hv.out x hx) hgr4 hr4⟩
                  case rest =>
                    obtain ⟨rfl, hsw4, hls4⟩ := hcut
                    have hT2 : waiting (T.settle i).l < n0 := by have := hwt.out; show waiting (settled T.l i) < n0; omega
                    have hcm : (cal : Int) ≤ 9223372036854775807 := by unfold maxLen at hcl2; omega
                    have hlt1 : ∀ a', (0 < ys.length → a' = some ⟨bl, ol + 1, none⟩) → a' ≠ none → LsAt w u4 ys wc (.slice a' ys.length (cal - 1)) := fun a' h1 h2 => hls4.tail a' h1 h2
                    replace hlt1 := Lib.hid hlt1
                    replace hsw4 := Lib.hid hsw4
                    replace hls4 := Lib.hid hls4
                    clear hsw3 hls3 hA3 hpx3 hown3 cS hli3 hdn hA hZ hown hap hpx hxs
                    by_cases hc1 : cal = 1
                    · subst hc1
                      obtain rfl : ys = [] := List.length_eq_zero_iff.1 (by omega)
                      have hls5 : LsAt w u4 [] wc (.slice (some ⟨bl, ol, none⟩) 0 0) := hlt1.out (some ⟨bl, ol, none⟩) (fun h => by simp at h) (by simp)
                      replace hls5 := Lib.hid hls5
                      go_wp2_with fail
                      go_roundg 0
                      case measure => simp
                      case rel => exact ⟨T.settle i, [], true, rfl, hwk2.out, hVT.out, hys.out, rfl, ⟨fun _ => hT2, fun _ => rfl⟩, by omega, hsw4.out, hls5.out⟩
                    · have hls5 := hlt1.out (some ⟨bl, ol + 1, none⟩) (fun h => rfl) (by simp)
                      replace hls5 := Lib.hid hls5
                      go_wp2_with fail
                      go_roundg ys.length
                      case measure => simp
                      case rel => exact ⟨T.settle i, ys, true, rfl, hwk2.out, hVT.out, hys.out, rfl, ⟨fun _ => hT2, fun _ => rfl⟩, by omega, hsw4.out, hls5.out⟩
        · obtain rfl : m = 4 := by omega
          have hn4 := hn0.out
          have hres : b = false → Rests (visits (4 * (r + 1)) S) := fun e => by
            have h2 : waiting (visits (4 * r + 4) S).l = waiting (visits (4 * r) S).l := by
              rw [hn4]
              have h3 : ¬ waiting (visits (4 * r + 4) S).l < n0 := fun h => by rw [hbm.2 h] at e; cases e
              omega
            have h4 := rests_of_round S hnd.out (4 * r) h2
            show Rests (visits (4 * r + 4) S)
            rw [visits_rest h4 4]
            exact h4
          have hme : 2 * waiting (visits (4 * (r + 1)) S).l + (if b = true then 1 else 0) < 2 * n0 + 1 := by
            show 2 * waiting (visits (4 * r + 4) S).l + (if b = true then 1 else 0) < 2 * n0 + 1
            cases b with
            | true => have := hbm.1 rfl; simp; omega
            | false => simp; omega
          clear hbm hwl
          replace hres := Lib.hid hres
          replace hme := Lib.hid hme
          replace hsw := Lib.hid hsw
          replace hn4 := Lib.hid hn4
          replace hg := Lib.hid hg
          go_wp2_with fail
          go_roundg (2 * waiting (visits (4 * (r + 1)) S).l + (if b = true then 1 else 0))
          case measure => have h5 := hg.out; simp only [if_true] at h5; rw [h5]; exact hme.out
          case rel => exact ⟨r + 1, b, rfl, rfl, hres.out, hsw.out⟩
end Go.Proofs.Ytggfdkkhlokmlaa
