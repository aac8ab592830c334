/- The closure by which queue.Of compares. -/
import Derived.Test.YtggfdkkhlokmlaaCmp
import Derived.Deep.RegionHeld3
import Derived.Deep.DeepCutAuto
namespace Go.Proofs.Ytggfdkkhlokmlaa
open Go.RowKit
attribute [local go_sem] hc_pays
set_option maxRecDepth 100000 in
set_option maxHeartbeats 4000000 in
theorem ofCmp_any (h : Hs) (l : List Pay) (a : Option Addr) (cap g : Nat) (x y : Nat) (w : World) (hx : x < l.length) (hy : y < l.length) (hg : w.heap[g]? = some (.cells (hc h (.slice a l.length cap)) 30 (0, 0))) (hp : PaysAt w a cap l) :
    Calls Try.prog 72 #[.int .i64 x, .int .i64 y, .pointer (some ⟨g, 0, none⟩)] w fun e w' => e = .returned (.int .i64 (cmpP (payAt l x) (payAt l y))) ∧ Below w.heap.size w w' ∧ w.drawn ≤ w'.drawn := by
  have hpx := payAt_get hx
  have hpy := payAt_get hy
  obtain ⟨p, ep⟩ : ∃ p, payAt l x = p := ⟨_, rfl⟩
  obtain ⟨q, eq⟩ : ∃ q, payAt l y = q := ⟨_, rfl⟩
  rw [ep] at hpx
  rw [eq] at hpy
  rw [ep, eq]
  obtain ⟨b, o, rfl, _, _⟩ := hp.row (by omega)
  obtain ⟨x0, x1, x2, x3, x4, x5⟩ := hp.six hpx
  obtain ⟨y0, y1, y2, y3, y4, y5⟩ := hp.six hpy
  have hcl := cells_at hg
  have hxi : (x : Int) < (l.length : Int) := by omega
  have hyi : (y : Int) < (l.length : Int) := by omega
  have hml : (l.length : Int) ≤ 9223372036854775807 := by have h1 := hp.le; have h2 := hp.capm; unfold maxLen at h2; omega
  have ex : ∀ j : Nat, o + x * 6 + j = o + (x * 6 + j) := fun j => by omega
  have c40 : w.cell? ⟨g, 40, none⟩ = some (.slice (some ⟨b, o, none⟩) l.length cap) := (hcl 40).trans (hc_pays _ _)
  have n40 := World.new_ne w _ c40
  have nx0 := World.new_ne w _ x0
  have nx1 := World.new_ne w _ x1
  have nx2 := World.new_ne w _ x2
  have nx3 := World.new_ne w _ x3
  have nx4 := World.new_ne w _ x4
  have nx5 := World.new_ne w _ x5
  have ny0 := World.new_ne w _ y0
  have ny1 := World.new_ne w _ y1
  have ny2 := World.new_ne w _ y2
  have ny3 := World.new_ne w _ y3
  have ny4 := World.new_ne w _ y4
  have ny5 := World.new_ne w _ y5
  replace ep := Lib.hid ep
  replace eq := Lib.hid eq
  replace hpx := Lib.hid hpx
  replace hpy := Lib.hid hpy
  replace hp := Lib.hid hp
  replace hg := Lib.hid hg
  clear hcl ex
  go_enter Try.func72, Try.ntmps72
  go_upto_region 1 with fail
  go_cut [6, 7] (fun s6 s7 wx => ∃ gx gy : Nat, s6 = .pointer (some ⟨gx, 0, none⟩) ∧ s7 = .pointer (some ⟨gy, 0, none⟩) ∧ wx.heap[gx]? = some (.cells (pc p) 36 (0, 0)) ∧ wx.heap[gy]? = some (.cells (pc q) 36 (0, 0)) ∧ Below w.heap.size w wx ∧ w.drawn ≤ wx.drawn)
  case first =>
    go_region_held3 (fun w' => w'.cell? ⟨g, 40, none⟩ = some (.slice (some ⟨b, o, none⟩) l.length cap) ∧ w'.cell? ⟨b, o + x * 6, none⟩ = some (.int .i64 p.frm) ∧ w'.cell? ⟨b, o + x * 6 + 1, none⟩ = some (.int .i64 p.to) ∧ w'.cell? ⟨b, o + x * 6 + 2, none⟩ = some (.int .i64 p.amt) ∧ w'.cell? ⟨b, o + x * 6 + 3, none⟩ = some (.int .i64 p.cls) ∧ w'.cell? ⟨b, o + x * 6 + 4, none⟩ = some (.int .i64 p.st) ∧ w'.cell? ⟨b, o + x * 6 + 5, none⟩ = some (.int .i64 p.seq) ∧ w'.cell? ⟨b, o + y * 6, none⟩ = some (.int .i64 q.frm) ∧ w'.cell? ⟨b, o + y * 6 + 1, none⟩ = some (.int .i64 q.to) ∧ w'.cell? ⟨b, o + y * 6 + 2, none⟩ = some (.int .i64 q.amt) ∧ w'.cell? ⟨b, o + y * 6 + 3, none⟩ = some (.int .i64 q.cls) ∧ w'.cell? ⟨b, o + y * 6 + 4, none⟩ = some (.int .i64 q.st) ∧ w'.cell? ⟨b, o + y * 6 + 5, none⟩ = some (.int .i64 q.seq)) (go_keep) (fail)
    all_goals
      go_wp2_with fail
      go_meet
      case rel =>
        refine ⟨_, _, rfl, rfl, ?_, ?_, (((Below.refl w.heap.size w).alloc (Nat.le_refl _) _).alloc (by simp) _).drew, Nat.le_succ _⟩
        · first | exact heap_alloc2_old w _ _ | exact heap_alloc2_new w _ _
        · first | exact heap_alloc2_old w _ _ | exact heap_alloc2_new w _ _
  case rest =>
    obtain ⟨gx, gy, rfl, rfl, hgx, hgy, hb, hd⟩ := hcut
    have a3 : wc.cell? ⟨gx, 3, none⟩ = some (.int .i64 p.cls) := cells_at hgx 3
    have a5 : wc.cell? ⟨gx, 5, none⟩ = some (.int .i64 p.seq) := cells_at hgx 5
    have b3 : wc.cell? ⟨gy, 3, none⟩ = some (.int .i64 q.cls) := cells_at hgy 3
    have b5 : wc.cell? ⟨gy, 5, none⟩ = some (.int .i64 q.seq) := cells_at hgy 5
    replace hgx := Lib.hid hgx
    replace hgy := Lib.hid hgy
    clear c40 x0 x1 x2 x3 x4 x5 y0 y1 y2 y3 y4 y5 n40 nx0 nx1 nx2 nx3 nx4 nx5 ny0 ny1 ny2 ny3 ny4 ny5
    have na3 := World.new_ne wc _ a3
    have na5 := World.new_ne wc _ a5
    have nb3 := World.new_ne wc _ b3
    have nb5 := World.new_ne wc _ b5
    go_upto_region 2 with fail
    go_region_held3 (fun w' => w'.cell? ⟨gx, 3, none⟩ = some (.int .i64 p.cls) ∧ w'.cell? ⟨gx, 5, none⟩ = some (.int .i64 p.seq) ∧ w'.cell? ⟨gy, 3, none⟩ = some (.int .i64 q.cls) ∧ w'.cell? ⟨gy, 5, none⟩ = some (.int .i64 q.seq)) (go_keep) (first | (go_at_call 74; refine (compare_any _ _ _).mono ?_; rintro e w' ⟨rfl, rfl⟩) | (go_at_call 73; refine (or_any (cmpI p.cls q.cls) (cmpI p.seq q.seq) wc.heap.size _ ?_ ?_).mono ?_; (exact cells_at (hnew wc _) 0); (exact cells_at (hnew wc _) 1); rintro e w' ⟨rfl, rfl⟩))
    all_goals
      go_wp2_with fail
      go_ret
      exact ⟨rfl, (hb.alloc hb.size _).drew, Nat.le_succ_of_le hd⟩
end Go.Proofs.Ytggfdkkhlokmlaa
