/- The reference's QueueOf: the walk. -/
import Derived.Test.YtggfdkkhlokmlaaSelMath
import Derived.Test.YtggfdkkhlokmlaaSame
import Derived.Test.YtggfdkkhlokmlaaGood
import Derived.Test.YtggfdkkhlokmlaaCalm
import Derived.Deep.LoopGhost
import Derived.BigQuiet
namespace Go.Proofs.Ytggfdkkhlokmlaa
open Go.RowKit
attribute [local go_sem] hc_pays pc_0 pc_1 pc_2 pc_3 pc_4 pc_5
theorem nats_mem {x : Nat} {xs : List Nat} : (x : Int) ∈ nats xs ↔ x ∈ xs := by
  simp only [nats, List.mem_map]
  exact ⟨fun ⟨y, hy, e⟩ => by have : y = x := by omega
                              exact this ▸ hy, fun h => ⟨x, h, rfl⟩⟩
theorem nats_snoc (xs : List Nat) (x : Nat) : nats (xs ++ [x]) = nats xs ++ [(x : Int)] := by simp [nats]
theorem OwnInts.grownO {w w' : World} {base : Nat} {v : Value} {l : List Int} {g : Nat} (h : OwnInts w base v l) (hg : w.grownBy w' (some g)) (hne : g < base) : OwnInts w' base v l := by
  obtain ⟨⟨hlen, hv⟩, hroom⟩ := h
  refine ⟨⟨hlen, ?_⟩, hroom⟩
  rcases hv with h0 | ⟨g', cap, cur, rfl, hb', hg', hrest⟩
  · exact .inl h0
  · exact .inr ⟨g', cap, cur, rfl, hb', (hg.block _ (hlt hg') (by simp; omega)).trans hg', hrest⟩
set_option maxRecDepth 100000 in
set_option maxHeartbeats 4000000 in
theorem queueOf_any (h : Hs) (l : List Pay) (a : Option Addr) (cap : Nat) (bank : Int) (w : World) (hp : PaysAt w a cap l) :
    Calls Try.prog 47 #[.agg (hc h (.slice a l.length cap)), .int .i64 bank] w (QPost l bank w) := by
  have hroom := hp.room
  have hml : (l.length : Int) ≤ 9223372036854775807 := by have h1 := hp.le; have h2 := hp.capm; unfold maxLen at h2; omega
  obtain ⟨i0, z, hi, hz0, hz1, hz2, hz3⟩ := info3z
  have hmm := @run_makeMap Try.prog
  go_enter Try.func47, Try.ntmps47
  go_wp2
  have hH0 := hnew w (.cells (hc h (.slice a l.length cap)) 30)
  have hB0 := (Below.refl w.heap.size w).alloc (Nat.le_refl _) (.cells (hc h (.slice a l.length cap)) 30)
  go_loopg [5, 14] l.length (fun g s5 s14 wr => ∃ (j : Nat) (out : List Nat), j ≤ l.length ∧ g = l.length - j ∧ s14 = .int .i64 j ∧ Sel l bank out j ∧ OwnInts wr (w.heap.size + 2) s5 (nats out) ∧ wr.heap[w.heap.size]? = some (.cells (hc h (.slice a l.length cap)) 30 (0, 0)) ∧ SeenAt wr (w.heap.size + 1) (nats out) ∧ Below w.heap.size w wr)
  case atStart =>
    refine ⟨0, [], by omega, rfl, rfl, Sel.zero l bank, OwnInts.nil _ _, hold hH0 _, ?_, hB0.alloc hB0.size _⟩
    have := SeenAt.made (w.alloc (.cells (hc h (.slice a l.length cap)) 30))
    rw [alloc_sz] at this
    exact this
  case round =>
    clear hH0 hB0
    obtain ⟨j, out, hj, rfl, rfl, hsel, hown, hg, hsn, hb⟩ := hrel
    have hsz := hb.size
    have hcl := cells_at hg
    have hbx := hsn.lt
    obtain ⟨wo, rfl⟩ : ∃ wo : World, wo = wr := ⟨_, rfl⟩
    have hol := hsel.len
    replace hsel := Lib.hid hsel
    replace hown := Lib.hid hown
    by_cases h1 : j < l.length
    · obtain ⟨b, o, rfl, hbl, hc0⟩ := hp.row (by omega)
      go_wp2_with fail
      clear hcl
      go_loopg [7, 19] l.length (fun g s7 s19 wx => ∃ (i : Nat) (bb : Int), i ≤ l.length ∧ g = l.length - i ∧ s7 = .int .i64 bb ∧ s19 = .int .i64 i ∧ Best l bank out i bb ∧ Below wo.heap.size wo wx)
      case atStart => exact ⟨0, -1, by omega, rfl, rfl, rfl, Best.zero l bank out, Below.refl _ _⟩
      case round =>
        obtain ⟨i, bb, hi2, rfl, rfl, rfl, hbest, hbw⟩ := hrel
        have hgx := hkeep hbw hg
        have hclx := cells_at hgx
        have hsx := hsn.below hbw
        have hbx2 := hb.trans (hbw.mono hsz)
        by_cases h2 : i < l.length
        · have hpx := payAt_get h2
          obtain ⟨p, ep⟩ : ∃ p, payAt l i = p := ⟨_, rfl⟩
          rw [ep] at hpx
          have hcp : ∀ j v, (pc p)[j]? = some v → wr.cell? ⟨b, o + i * 6 + j, none⟩ = some v := fun j v hv => by rw [Nat.add_assoc]; exact (hbx2.cell (p := ⟨b, _, none⟩) hbl).trans (hc0 i p hpx j v hv)
          have hs2 := hsx.below ((Below.refl _ _).alloc (Nat.le_refl _) (.cells (pc p) 36))
          have hlook := hs2.look Try.underlying73 Try.underlying3 Try.underlying4 zb (i : Int)
          have hwi : i ∈ waits l bank ↔ p.st = 1 ∧ p.frm = bank := by rw [waits_mem, ep]; exact ⟨fun h => h.2, fun h => ⟨h2, h⟩⟩
          have hcq := cells_at (hnew wr (.cells (pc p) 36))
          have hgy := hold hgx (.cells (pc p) 36)
          have hcly := cells_at hgy
          have hbw2 := hbw.alloc hbw.size (.cells (pc p) 36)
          replace hcp := Lib.hid hcp
          replace ep := Lib.hid ep
          replace hpx := Lib.hid hpx
          replace hwi := Lib.hid hwi
          replace hbest := Lib.hid hbest
          by_cases h3 : p.st = 1
          · by_cases h4 : p.frm = bank
            · by_cases h5 : i ∈ out
              · have hd5 : decide ((i : Int) ∈ nats out) = true := by simp [nats_mem, h5]
                rw [hd5] at hlook
                go_wp2_with (first | go_skip | (refine ld_cells 36 _ rfl rfl b (o + i * 6) rfl (pc p) _ Try.underlying36 rfl info36 hcp.out ?_) | (refine st_new 36 _ _ rfl _ 36 _ rfl rfl rfl _ rfl info36 rfl (pc_one p) ?_))
                go_roundg (l.length - (i + 1))
                case measure => omega
                case rel => exact ⟨i + 1, bb, by omega, rfl, rfl, by go_num, hbest.out.skip fun _ => h5, hbw2⟩
              · have hd5 : decide ((i : Int) ∈ nats out) = false := by simp [nats_mem, h5]
                rw [hd5] at hlook
                have hwi2 := hwi.out.2 ⟨h3, h4⟩
                have hm := hbest.out.at_ hi2
                have hbn : ∀ n, Below wo.heap.size wo ((wr.alloc (.cells (pc p) 36)).drewN n) := fun n => below_drewN hbw2 n
                replace hbn := Lib.hid hbn
                rcases hm with rfl | ⟨m, rfl, hm⟩
                · have hnew := hbest.out.new (by omega) hwi2 h5
                  replace hnew := Lib.hid hnew
                  replace hwi2 := Lib.hid hwi2
                  replace h5 := Lib.hid h5
                  go_upto_region 10 with (first | go_skip | (refine ld_cells 36 _ rfl rfl b (o + i * 6) rfl (pc p) _ Try.underlying36 rfl info36 hcp.out ?_) | (refine st_new 36 _ _ rfl _ 36 _ rfl rfl rfl _ rfl info36 rfl (pc_one p) ?_))
                  go_big_quiet (fail)
                  go_wp2_with fail
                  go_roundg (l.length - (i + 1))
                  case measure => omega
                  case rel => exact ⟨i + 1, i, by omega, rfl, rfl, by go_num, hnew.out, hbn.out _⟩
                · have hpm := payAt_get hm
                  have hle : leB l m i = leP (payAt l m) (payAt l i) := rfl
                  obtain ⟨q, eq⟩ : ∃ q, payAt l m = q := ⟨_, rfl⟩
                  rw [eq] at hpm hle
                  rw [ep.out] at hle
                  have hp2 : PaysAt (wr.alloc (.cells (pc p) 36)) (some ⟨b, o, none⟩) cap l := (hp.below hbx2).alloc _
                  obtain ⟨y0, y1, y2, y3, y4, y5⟩ := hp2.six hpm
                  clear y0 y1 y2 y4 hp2
                  have hml2 : (m : Int) < (l.length : Int) := by omega
                  have hm0 : decide ((m : Int) < 0) = false := decide_eq_false (by omega)
                  replace eq := Lib.hid eq
                  replace hpm := Lib.hid hpm
                  replace hle := Lib.hid hle
                  by_cases c1 : p.cls < q.cls
                  · have c1d : decide (p.cls < q.cls) = true := decide_eq_true c1
                    have hnew := hbest.out.less (by rw [hle.out]; simp only [leP, Bool.or_eq_false_iff, Bool.and_eq_false_iff, decide_eq_false_iff_not, beq_eq_false_iff_ne]; omega) hwi2 h5
                    replace hnew := Lib.hid hnew
                    replace hwi2 := Lib.hid hwi2
                    replace h5 := Lib.hid h5
                    go_upto_region 10 with (first | go_skip | (refine ld_cells 36 _ rfl rfl b (o + i * 6) rfl (pc p) _ Try.underlying36 rfl info36 hcp.out ?_) | (refine st_new 36 _ _ rfl _ 36 _ rfl rfl rfl _ rfl info36 rfl (pc_one p) ?_))
                    go_big_quiet (fail)
                    go_wp2_with fail
                    go_roundg (l.length - (i + 1))
                    case measure => omega
                    case rel => exact ⟨i + 1, i, by omega, rfl, rfl, by go_num, hnew.out, hbn.out _⟩
                  · have c1d : decide (p.cls < q.cls) = false := decide_eq_false c1
                    by_cases c2 : p.cls = q.cls
                    · have c2d : (p.cls == q.cls) = true := by simpa using c2
                      by_cases c3 : p.seq < q.seq
                      · have c3d : decide (p.seq < q.seq) = true := decide_eq_true c3
                        have hnew := hbest.out.less (by rw [hle.out]; simp only [leP, Bool.or_eq_false_iff, Bool.and_eq_false_iff, decide_eq_false_iff_not, beq_eq_false_iff_ne]; omega) hwi2 h5
                        replace hnew := Lib.hid hnew
                        replace hwi2 := Lib.hid hwi2
                        replace h5 := Lib.hid h5
                        go_upto_region 10 with (first | go_skip | (refine ld_cells 36 _ rfl rfl b (o + i * 6) rfl (pc p) _ Try.underlying36 rfl info36 hcp.out ?_) | (refine st_new 36 _ _ rfl _ 36 _ rfl rfl rfl _ rfl info36 rfl (pc_one p) ?_))
                        go_big_quiet (fail)
                        go_wp2_with fail
                        go_roundg (l.length - (i + 1))
                        case measure => omega
                        case rel => exact ⟨i + 1, i, by omega, rfl, rfl, by go_num, hnew.out, hbn.out _⟩
                      · have c3d : decide (p.seq < q.seq) = false := decide_eq_false c3
                        have hnew := hbest.out.stay (by rw [hle.out]; simp only [leP, Bool.or_eq_true, Bool.and_eq_true, decide_eq_true_eq, beq_iff_eq]; omega)
                        replace hnew := Lib.hid hnew
                        replace hwi2 := Lib.hid hwi2
                        replace h5 := Lib.hid h5
                        go_upto_region 10 with (first | go_skip | (refine ld_cells 36 _ rfl rfl b (o + i * 6) rfl (pc p) _ Try.underlying36 rfl info36 hcp.out ?_) | (refine st_new 36 _ _ rfl _ 36 _ rfl rfl rfl _ rfl info36 rfl (pc_one p) ?_))
                        go_big_quiet (fail)
                        go_wp2_with fail
                        go_roundg (l.length - (i + 1))
                        case measure => omega
                        case rel => exact ⟨i + 1, m, by omega, rfl, rfl, by go_num, hnew.out, hbn.out _⟩
                    · have c2d : (p.cls == q.cls) = false := by simpa using c2
                      have hnew := hbest.out.stay (by rw [hle.out]; simp only [leP, Bool.or_eq_true, Bool.and_eq_true, decide_eq_true_eq, beq_iff_eq]; omega)
                      replace hnew := Lib.hid hnew
                      replace hwi2 := Lib.hid hwi2
                      replace h5 := Lib.hid h5
                      go_upto_region 10 with (first | go_skip | (refine ld_cells 36 _ rfl rfl b (o + i * 6) rfl (pc p) _ Try.underlying36 rfl info36 hcp.out ?_) | (refine st_new 36 _ _ rfl _ 36 _ rfl rfl rfl _ rfl info36 rfl (pc_one p) ?_))
                      go_big_quiet (fail)
                      go_wp2_with fail
                      go_roundg (l.length - (i + 1))
                      case measure => omega
                      case rel => exact ⟨i + 1, m, by omega, rfl, rfl, by go_num, hnew.out, hbn.out _⟩
            · have hsk := hbest.out.skip (fun hw => absurd (hwi.out.1 hw).2 h4)
              replace hsk := Lib.hid hsk
              go_wp2_with (first | go_skip | (refine ld_cells 36 _ rfl rfl b (o + i * 6) rfl (pc p) _ Try.underlying36 rfl info36 hcp.out ?_) | (refine st_new 36 _ _ rfl _ 36 _ rfl rfl rfl _ rfl info36 rfl (pc_one p) ?_))
              go_roundg (l.length - (i + 1))
              case measure => omega
              case rel => exact ⟨i + 1, bb, by omega, rfl, rfl, by go_num, hsk.out, hbw2⟩
          · have hsk := hbest.out.skip (fun hw => absurd (hwi.out.1 hw).1 h3)
            replace hsk := Lib.hid hsk
            go_wp2_with (first | go_skip | (refine ld_cells 36 _ rfl rfl b (o + i * 6) rfl (pc p) _ Try.underlying36 rfl info36 hcp.out ?_) | (refine st_new 36 _ _ rfl _ 36 _ rfl rfl rfl _ rfl info36 rfl (pc_one p) ?_))
            go_roundg (l.length - (i + 1))
            case measure => omega
            case rel => exact ⟨i + 1, bb, by omega, rfl, rfl, by go_num, hsk.out, hbw2⟩
        · have hd2 : decide ((i : Int) < (l.length : Int)) = false := by simp; omega
          have hil : i = l.length := by omega
          rw [hil] at hbest
          clear hd2
          have hni : ¬ (i : Int) < (l.length : Int) := by omega
          have hni2 : l.length ≤ i := by omega
          replace hil := Lib.hid hil
          rcases hbest.at_ (Nat.le_refl _) with rfl | ⟨m, rfl, hm⟩
          · have hs2 := hsel.out.none hbest
            replace hs2 := Lib.hid hs2
            replace hbest := Lib.hid hbest
            go_wp2_with fail
            go_roundg (l.length - (j + 1))
            case measure => omega
            case rel => exact ⟨j + 1, out, by omega, rfl, by go_num, hs2.out, hown.out.below hbw, hgx, hsx, hbx2⟩
          · obtain ⟨hm2, hmo, hs2⟩ := hsel.out.some hbest
            have hmn : (m : Int) ∉ nats out := fun h => hmo (nats_mem.1 h)
            have hol2 := hs2.len
            rw [List.length_append] at hol2
            simp only [List.length_cons, List.length_nil] at hol2
            obtain ⟨w2, hput, hsp, hgr2, hsz2⟩ := hsx.put Try.underlying73 Try.underlying3 (m : Int) hmn
            have hg2 := (hgr2.block _ (hlt hgx) (by simp)).trans hgx
            replace hsz2 := Lib.hid hsz2
            have hb2 : Below w.heap.size w w2 := hbx2.grown hgr2 hbx2.size (fun k hk => by cases hk; omega)
            have hown2 : OwnInts w2 (w.heap.size + 2) u5 (nats out) := (hown.out.below hbw).grownO hgr2 (by omega)
            have hown3 := hown2.alloc (.cells #[.int .i64 (m : Int)] 3)
            replace hs2 := Lib.hid hs2
            replace hmo := Lib.hid hmo
            replace hmn := Lib.hid hmn
            replace hbest := Lib.hid hbest
            replace hown2 := Lib.hid hown2
            replace hown3 := Lib.hid hown3
            go_wp2_with (first | go_skip | (at_builtin; refine wpList_append_own _ rfl _ _ 54 rfl (w.heap.size + 2) 3 i0 z 1 8 Try.underlying54 hi hz0 hz1 hz2 hz3 (by decide) u5 (nats out).length (icells (nats out)) rfl hown3.out.1 ⟨w2.heap.size, 0, none⟩ 1 1 [.int .i64 (m : Int)] rfl rfl ?c1 ?c2 ?c3 ?c4 ?c5 ?_))
            case c2 => rfl
            case c3 => rw [nats_len]; simp only [maxLen]; omega
            case c4 => rw [nats_len]; omega
            case c5 => have := hgr2.size; have := hsx.lt; omega
            intro v' w3 hownv hgr _
            have hO3 : OwnInts w3 (w.heap.size + 2) v' (nats (out ++ [m])) := by
              rw [nats_snoc]
              exact OwnInts.snoc rfl (by rw [nats_len]; omega) hownv
            have hbz := hb2.alloc hb2.size (.cells #[.int .i64 (m : Int)] 3)
            have hb3 : Below w.heap.size w w3 := hbz.grown hgr hbz.size fun g hg => by have := hown2.out.own hg; omega
            have hg3 := (hgr.block _ (hlt (hold hg2 _)) (fun e => by have := hown2.out.own e.symm; omega)).trans (hold hg2 (.cells #[.int .i64 (m : Int)] 3))
            have hs3 : SeenAt w3 (w.heap.size + 1) (nats (out ++ [m])) := by
              rw [nats_snoc]
              have h7 : SeenAt (w2.alloc (.cells #[.int .i64 (m : Int)] 3)) (w.heap.size + 1) (nats out ++ [(m : Int)]) := hsp.below ((Below.refl _ _).alloc (Nat.le_refl _) _)
              exact h7.keep (hgr.block _ h7.lt (fun e => by have := hown2.out.own e.symm; omega))
            replace hownv := Lib.hid hownv
            clear hgr
            go_wp2_with fail
            go_roundg (l.length - (j + 1))
            case measure => omega
            case rel => exact ⟨j + 1, out ++ [m], by omega, rfl, by go_num, hs2.out, hO3, hg3, hs3, hb3⟩
    · have hd1 : decide ((j : Int) < (l.length : Int)) = false := by simp; omega
      have hjl : j = l.length := by omega
      have hq : IsQueue l bank out := by have := hsel.out; rw [hjl] at this; exact this.is
      replace hjl := Lib.hid hjl
      replace hq := Lib.hid hq
      go_wp2_with fail
      go_ret
      exact ⟨⟨u5, out, rfl, hq.out, hown.out.mono (by omega)⟩, hb⟩
end Go.Proofs.Ytggfdkkhlokmlaa
