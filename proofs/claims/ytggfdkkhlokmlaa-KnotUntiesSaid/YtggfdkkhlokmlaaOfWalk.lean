/- queue.Of: the walk. -/
import Derived.Test.YtggfdkkhlokmlaaOf
import Derived.Deep.LoopGhost
namespace Go.Proofs.Ytggfdkkhlokmlaa
open Go.RowKit
attribute [local go_sem] hc_pays pc_0 pc_1 pc_2 pc_3 pc_4 pc_5
theorem waits_step (l : List Pay) (bank : Int) (n : Nat) : (List.range (n + 1)).filter (waitsB l bank) = (List.range n).filter (waitsB l bank) ++ if waitsB l bank n = true then [n] else [] := by
  rw [List.range_succ, List.filter_append]; simp [List.filter_cons]
set_option maxRecDepth 100000 in
set_option maxHeartbeats 1000000 in
theorem of_any (h : Hs) (l : List Pay) (a : Option Addr) (cap : Nat) (bank : Int) (w : World) (hp : PaysAt w a cap l) :
    Calls Try.prog 46 #[.agg (hc h (.slice a l.length cap)), .int .i64 bank] w (QPost l bank w) := by
  have hroom := hp.room
  have hml : (l.length : Int) ≤ 9223372036854775807 := by have h1 := hp.le; have h2 := hp.capm; unfold maxLen at h2; omega
  obtain ⟨i0, z, hi, hz0, hz1, hz2, hz3⟩ := info3z
  have hpl : ∀ b off s, a = some ⟨b, off, s⟩ → 0 < l.length → b < w.heap.size := fun b off s e hl => by
    obtain ⟨b', off', e', hbl, _⟩ := hp.row hl
    rw [e] at e'; cases e'; exact hbl
  replace hpl := Lib.hid hpl
  go_enter Try.func46, Try.ntmps46
  go_wp2
  have hH0 := hnew w (.cells (hc h (.slice a l.length cap)) 30)
  have hB0 := (Below.refl w.heap.size w).alloc (Nat.le_refl _) (.cells (hc h (.slice a l.length cap)) 30)
  go_loopg [5, 11] l.length (fun g s5 s11 wr => ∃ (n : Nat) (xs : List Nat), n ≤ l.length ∧ g = l.length - n ∧ s11 = .int .i64 n ∧ xs = (List.range n).filter (waitsB l bank) ∧ OwnInts wr (w.heap.size + 1) s5 (nats xs) ∧ wr.heap[w.heap.size]? = some (.cells (hc h (.slice a l.length cap)) 30 (0, 0)) ∧ Below w.heap.size w wr)
  case atStart => exact ⟨0, [], by omega, rfl, rfl, rfl, OwnInts.nil _ _, hH0, hB0⟩
  case round =>
    clear hH0 hB0
    obtain ⟨n, xs, hn, rfl, rfl, hxs, hown, hg, hb⟩ := hrel
    have hsz := hb.size
    have hgl := hlt hg
    have hxl : xs.length ≤ n := by rw [hxs]; have := List.length_filter_le (waitsB l bank) (List.range n); simpa using this
    replace hxs := Lib.hid hxs
    replace hown := Lib.hid hown
    by_cases h1 : n < l.length
    · obtain ⟨b, o, rfl, hbl, hc0⟩ := hp.row (by omega)
      have hpx := payAt_get h1
      have hst : waitsB l bank n = ((payAt l n).st == 1 && (payAt l n).frm == bank) := rfl
      obtain ⟨p, ep⟩ : ∃ p, payAt l n = p := ⟨_, rfl⟩
      rw [ep] at hpx hst
      have hcp : ∀ j v, (pc p)[j]? = some v → wr.cell? ⟨b, o + n * 6 + j, none⟩ = some v := fun j v hv => by rw [Nat.add_assoc]; exact (hb.cell (p := ⟨b, _, none⟩) hbl).trans (hc0 n p hpx j v hv)
      have hcq := cells_at (hnew wr (.cells (pc p) 36))
      have hgy := hold hg (.cells (pc p) 36)
      have hby := hb.alloc hsz (.cells (pc p) 36)
      have hoy := hown.out.alloc (.cells (pc p) 36)
      have hws := waits_step l bank n
      rw [← hxs.out] at hws
      clear hc0
      replace hcp := Lib.hid hcp
      replace ep := Lib.hid ep
      replace hpx := Lib.hid hpx
      replace hws := Lib.hid hws
      replace hst := Lib.hid hst
      replace hoy := Lib.hid hoy
      by_cases h3 : p.st = 1
      · by_cases h4 : p.frm = bank
        · have hw1 : waitsB l bank n = true := by rw [hst.out]; simp [h3, h4]
          have hoz := (hoy.out).alloc (.cells #[.int .i64 (n : Int)] 3)
          replace hoz := Lib.hid hoz
          replace hw1 := Lib.hid hw1
          go_wp2_with (first | go_skip | (at_builtin; refine wpList_append_own _ rfl _ _ 54 rfl (w.heap.size + 1) 3 i0 z 1 8 Try.underlying54 hi hz0 hz1 hz2 hz3 (by decide) u5 (nats xs).length (icells (nats xs)) rfl hoz.out.1 ⟨wr.heap.size + 1, 0, none⟩ 1 1 [.int .i64 (n : Int)] rfl rfl ?c1 ?c2 ?c3 ?c4 ?c5 ?_) | (refine ld_cells 36 _ rfl rfl b (o + n * 6) rfl (pc p) _ Try.underlying36 rfl info36 hcp.out ?_) | (refine st_new 36 _ _ rfl _ 36 _ rfl rfl rfl _ rfl info36 rfl (pc_one p) ?_))
          case c1 =>
            have h5 := cell_new1 (wr.alloc (.cells (pc p) 36)) (.int .i64 (n : Int)) 3
            rw [alloc_sz] at h5
            exact h5
          case c2 => intro u hu; obtain rfl := List.mem_singleton.1 hu; rfl
          case c3 => rw [nats_len]; simp only [maxLen]; omega
          case c4 => rw [nats_len]; omega
          case c5 => rw [alloc_sz, alloc_sz]; omega
          intro v' w3 hown3 hgr _
          have hO3 : OwnInts w3 (w.heap.size + 1) v' (nats (xs ++ [n])) := by
            rw [nats, List.map_append]
            exact OwnInts.snoc rfl (by rw [← nats, nats_len]; omega) hown3
          have hgz := hold hgy (.cells #[.int .i64 (n : Int)] 3)
          have hbz := hby.alloc hby.size (.cells #[.int .i64 (n : Int)] 3)
          have hb3 : Below w.heap.size w w3 := hbz.grown hgr hbz.size fun g hg => by have := hown.out.own hg; omega
          have hg3 := (hgr.block _ (hlt hgz) (fun e => by have := hown.out.own e.symm; omega)).trans hgz
          replace hown3 := Lib.hid hown3
          clear hgr
          go_wp2_with fail
          go_roundg (l.length - (n + 1))
          case measure => omega
          case rel => exact ⟨n + 1, xs ++ [n], by omega, rfl, by go_num, by rw [hws.out, if_pos hw1.out], hO3, hg3, hb3⟩
        · have hw1 : ¬ waitsB l bank n = true := by rw [hst.out]; simp [h4]
          replace hw1 := Lib.hid hw1
          go_wp2_with (first | go_skip | (refine ld_cells 36 _ rfl rfl b (o + n * 6) rfl (pc p) _ Try.underlying36 rfl info36 hcp.out ?_) | (refine st_new 36 _ _ rfl _ 36 _ rfl rfl rfl _ rfl info36 rfl (pc_one p) ?_))
          go_roundg (l.length - (n + 1))
          case measure => omega
          case rel => exact ⟨n + 1, xs, by omega, rfl, by go_num, by rw [hws.out, if_neg hw1.out, List.append_nil], hoy.out, hgy, hby⟩
      · have hw1 : ¬ waitsB l bank n = true := by rw [hst.out]; simp [h3]
        replace hw1 := Lib.hid hw1
        go_wp2_with (first | go_skip | (refine ld_cells 36 _ rfl rfl b (o + n * 6) rfl (pc p) _ Try.underlying36 rfl info36 hcp.out ?_) | (refine st_new 36 _ _ rfl _ 36 _ rfl rfl rfl _ rfl info36 rfl (pc_one p) ?_))
        go_roundg (l.length - (n + 1))
        case measure => omega
        case rel => exact ⟨n + 1, xs, by omega, rfl, by go_num, by rw [hws.out, if_neg hw1.out, List.append_nil], hoy.out, hgy, hby⟩
    · have hd1 : decide ((n : Int) < (l.length : Int)) = false := by simp; omega
      have hxw : xs = waits l bank := by rw [hxs.out, show n = l.length from by omega]; rfl
      have hS := sortFunc_any h l a cap w.heap.size (w.heap.size + 1) u5 xs wr hg (hp.below hb) (by omega) (fun hl b off s e => by have := hpl.out b off s e hl; omega) (fun x hx => by rw [hxw] at hx; exact (waits_mem.1 hx).1) hown.out
      replace hxw := Lib.hid hxw
      replace hS := Lib.hid hS
      go_wp2_with (first | go_skip | (go_at_call 71; refine hS.out.mono ?_; rintro e w3 ⟨rfl, ys, hperm, hsort, hown3, hb3⟩))
      replace hown3 := Lib.hid hown3
      go_ret
      exact ⟨⟨u5, ys, rfl, ⟨by rw [← hxw.out]; exact hperm, hsort⟩, hown3.out.mono (by omega)⟩, hb.trans (hb3.mono (by omega))⟩
end Go.Proofs.Ytggfdkkhlokmlaa
