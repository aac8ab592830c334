/- cmp.Compare and cmp.Or at int; the order in which queue.Of sorts. -/
import Derived.BigRegion
import Derived.Outline
import Derived.Deep.RegionHeld3
import Derived.Deep.DeepCutAuto
import Derived.Test.YtggfdkkhlokmlabProg
import Derived.Shelf.SlSortCmp.NoneTotal
import Derived.Ground.SlsfProg
import Derived.Lib.SortBridge
import Derived.Deep.LoopGhost
import Derived.Test.YtggfdkkhlokmlabCMem
import Derived.Test.YtggfdkkhlokmlabCPln
import Derived.Test.YtggfdkkhlokmlabCSel
namespace Go.Proofs.Ytggfdkkhlokmlab
open Go.RowKit
def cmpI (a b : Int) : Int := if a < b then -1 else if b < a then 1 else 0
def orI (a b : Int) : Int := if a = 0 then b else a
def cmpP (p q : Pay) : Int := orI (cmpI p.cls q.cls) (cmpI p.seq q.seq)
theorem cmpI_lt {a b : Int} : cmpI a b < 0 ↔ a < b := by unfold cmpI; split <;> (try split) <;> omega
theorem cmpI_eq {a b : Int} : cmpI a b = 0 ↔ a = b := by unfold cmpI; split <;> (try split) <;> omega
theorem cmpP_lt {p q : Pay} : cmpP p q < 0 ↔ p.cls < q.cls ∨ p.cls = q.cls ∧ p.seq < q.seq := by
 unfold cmpP orI
 split
 ·rename_i h; have h := cmpI_eq.1 h; rw [cmpI_lt]; omega
 ·rename_i h; rw [cmpI_lt]; have h : ¬ p.cls = q.cls := fun e => h (cmpI_eq.2 e); omega
set_option maxHeartbeats 400000 in
theorem isNaN_any (a : Int) (w : World) : Calls Try.prog 95 #[.int .i64 a] w fun e w' => e = .returned (.bool false) ∧ w = w' := by
 go_enter Try.func95, Try.ntmps95
 go_wp2
 go_ret
 exact ⟨rfl, rfl⟩
set_option maxHeartbeats 1000000 in
theorem compare_any (a b : Int) (w : World) : Calls Try.prog 88 #[.int .i64 a, .int .i64 b] w fun e w' => e = .returned (.int .i64 (cmpI a b)) ∧ w = w' := by
 obtain ⟨r, hr⟩ : ∃ r, cmpI a b = r := ⟨_, rfl⟩
 rw [hr]
 by_cases h1 : a < b
 ·have e : r = -1 := by rw [← hr]; simp [cmpI, h1]
  subst e
  clear hr
  go_enter Try.func88, Try.ntmps88
  go_wp2_with (go_at_call 95; refine (isNaN_any _ _).mono ?_; rintro e w' ⟨rfl, rfl⟩)
  go_ret
  exact ⟨rfl, rfl⟩
 ·by_cases h2 : b < a
  ·have e : r = 1 := by rw [← hr]; simp [cmpI, h1, h2]
   subst e
   clear hr
   go_enter Try.func88, Try.ntmps88
   go_wp2_with (go_at_call 95; refine (isNaN_any _ _).mono ?_; rintro e w' ⟨rfl, rfl⟩)
   go_ret
   exact ⟨rfl, rfl⟩
  ·have e : r = 0 := by rw [← hr]; simp [cmpI, h1, h2]
   subst e
   clear hr
   go_enter Try.func88, Try.ntmps88
   go_wp2_with (go_at_call 95; refine (isNaN_any _ _).mono ?_; rintro e w' ⟨rfl, rfl⟩)
   go_ret
   exact ⟨rfl, rfl⟩
set_option maxHeartbeats 1000000 in
/-- cmp.Or of two ints that lie in a block. -/
theorem or_any (a b : Int) (g : Nat) (w : World) (h0 : w.cell? ⟨g, 0, none⟩ = some (.int .i64 a)) (h1 : w.cell? ⟨g, 1, none⟩ = some (.int .i64 b)) :
  Calls Try.prog 87 #[.slice (some ⟨g, 0, none⟩) 2 2] w fun e w' => e = .returned (.int .i64 (orI a b)) ∧ w = w' := by
 by_cases e1 : a = 0
 ·subst e1
  have hr : orI 0 b = b := by simp [orI]
  rw [hr]
  clear hr
  by_cases e2 : b = 0
  ·subst e2
   go_enter Try.func87, Try.ntmps87
   go_wp2
   refine wp_loop_rounds 3 ?_
   rw [rounds_succ]
   go_wp2
   rw [rounds_succ]
   go_wp2
   rw [rounds_succ]
   go_wp2
   go_ret
   exact ⟨rfl, rfl⟩
  ·have hb : (b != 0) = true := by rw [bne_iff_ne]; exact e2
   go_enter Try.func87, Try.ntmps87
   go_wp2
   refine wp_loop_rounds 2 ?_
   rw [rounds_succ]
   go_wp2
   rw [rounds_succ]
   go_wp2
   go_ret
   exact ⟨rfl, rfl⟩
 ·have hr : orI a b = a := by simp [orI, e1]
  have ha : (a != 0) = true := by rw [bne_iff_ne]; exact e1
  rw [hr]
  clear hr
  go_enter Try.func87, Try.ntmps87
  go_wp2
  refine wp_loop_rounds 1 ?_
  rw [rounds_succ]
  go_wp2
  go_ret
  exact ⟨rfl, rfl⟩
end Go.Proofs.Ytggfdkkhlokmlab

namespace Go.Proofs.Ytggfdkkhlokmlab
open Go.RowKit
attribute [local go_sem] hc_pays
set_option maxRecDepth 100000 in
set_option maxHeartbeats 4000000 in
theorem ofCmp_any (h : Hs) (l : List Pay) (a : Option Addr) (cap g : Nat) (x y : Nat) (w : World) (hx : x < l.length) (hy : y < l.length) (hg : w.heap[g]? = some (.cells (hc h (.slice a l.length cap)) 29 (0, 0))) (hp : PaysAt w a cap l) :
  Calls Try.prog 86 #[.int .i64 x, .int .i64 y, .pointer (some ⟨g, 0, none⟩)] w fun e w' => e = .returned (.int .i64 (cmpP (payAt l x) (payAt l y))) ∧ Below w.heap.size w w' ∧ w.drawn ≤ w'.drawn := by
 have hpx := payAt_get hx
 have hpy := payAt_get hy
 obtain ⟨p, ep⟩ : ∃ p, payAt l x = p := ⟨_, rfl⟩
 obtain ⟨q, eq⟩ : ∃ q, payAt l y = q := ⟨_, rfl⟩
 rw [ep] at hpx
 rw [eq] at hpy
 rw [ep, eq]
 obtain ⟨b, o, rfl, _, _⟩ := hp.row (by omega)
 obtain ⟨x0, x1, x2, x3, x4, x5⟩ := hp.six hpx
 obtain ⟨y0, y1, y2, y3, y4, y5⟩ := hp.six hpy
 have hcl := cells_at hg
 have hxi : (x : Int) < (l.length : Int) := by omega
 have hyi : (y : Int) < (l.length : Int) := by omega
 have hml : (l.length : Int) ≤ 9223372036854775807 := by have h1 := hp.le; have h2 := hp.capm; unfold maxLen at h2; omega
 have ex : ∀ j : Nat, o + x * 6 + j = o + (x * 6 + j) := fun j => by omega
 have c40 : w.cell? ⟨g, 40, none⟩ = some (.slice (some ⟨b, o, none⟩) l.length cap) := (hcl 40).trans (hc_pays _ _)
 have n40 := World.new_ne w _ c40
 have nx0 := World.new_ne w _ x0
 have nx1 := World.new_ne w _ x1
 have nx2 := World.new_ne w _ x2
 have nx3 := World.new_ne w _ x3
 have nx4 := World.new_ne w _ x4
 have nx5 := World.new_ne w _ x5
 have ny0 := World.new_ne w _ y0
 have ny1 := World.new_ne w _ y1
 have ny2 := World.new_ne w _ y2
 have ny3 := World.new_ne w _ y3
 have ny4 := World.new_ne w _ y4
 have ny5 := World.new_ne w _ y5
 replace ep := Lib.hid ep
 replace eq := Lib.hid eq
 replace hpx := Lib.hid hpx
 replace hpy := Lib.hid hpy
 replace hp := Lib.hid hp
 replace hg := Lib.hid hg
 clear hcl ex
 go_enter Try.func86, Try.ntmps86
 go_upto_region 1 with fail
 go_cut [6, 7] (fun s6 s7 wx => ∃ gx gy : Nat, s6 = .pointer (some ⟨gx, 0, none⟩) ∧ s7 = .pointer (some ⟨gy, 0, none⟩) ∧ wx.heap[gx]? = some (.cells (pc p) 70 (0, 0)) ∧ wx.heap[gy]? = some (.cells (pc q) 70 (0, 0)) ∧ Below w.heap.size w wx ∧ w.drawn ≤ wx.drawn)
 case first =>
  go_region_held3 (fun w' => w'.cell? ⟨g, 40, none⟩ = some (.slice (some ⟨b, o, none⟩) l.length cap) ∧ w'.cell? ⟨b, o + x * 6, none⟩ = some (.int .i64 p.frm) ∧ w'.cell? ⟨b, o + x * 6 + 1, none⟩ = some (.int .i64 p.to) ∧ w'.cell? ⟨b, o + x * 6 + 2, none⟩ = some (.int .i64 p.amt) ∧ w'.cell? ⟨b, o + x * 6 + 3, none⟩ = some (.int .i64 p.cls) ∧ w'.cell? ⟨b, o + x * 6 + 4, none⟩ = some (.int .i64 p.st) ∧ w'.cell? ⟨b, o + x * 6 + 5, none⟩ = some (.int .i64 p.seq) ∧ w'.cell? ⟨b, o + y * 6, none⟩ = some (.int .i64 q.frm) ∧ w'.cell? ⟨b, o + y * 6 + 1, none⟩ = some (.int .i64 q.to) ∧ w'.cell? ⟨b, o + y * 6 + 2, none⟩ = some (.int .i64 q.amt) ∧ w'.cell? ⟨b, o + y * 6 + 3, none⟩ = some (.int .i64 q.cls) ∧ w'.cell? ⟨b, o + y * 6 + 4, none⟩ = some (.int .i64 q.st) ∧ w'.cell? ⟨b, o + y * 6 + 5, none⟩ = some (.int .i64 q.seq)) (go_keep) (fail)
  all_goals
   go_wp2_with fail
   go_meet
   case rel =>
    refine ⟨_, _, rfl, rfl, ?_, ?_, (((Below.refl w.heap.size w).alloc (Nat.le_refl _) _).alloc (by simp) _).drew, Nat.le_succ _⟩
    ·first | exact heap_alloc2_old w _ _ | exact heap_alloc2_new w _ _
    ·first | exact heap_alloc2_old w _ _ | exact heap_alloc2_new w _ _
 case rest =>
  obtain ⟨gx, gy, rfl, rfl, hgx, hgy, hb, hd⟩ := hcut
  have a3 : wc.cell? ⟨gx, 3, none⟩ = some (.int .i64 p.cls) := cells_at hgx 3
  have a5 : wc.cell? ⟨gx, 5, none⟩ = some (.int .i64 p.seq) := cells_at hgx 5
  have b3 : wc.cell? ⟨gy, 3, none⟩ = some (.int .i64 q.cls) := cells_at hgy 3
  have b5 : wc.cell? ⟨gy, 5, none⟩ = some (.int .i64 q.seq) := cells_at hgy 5
  replace hgx := Lib.hid hgx
  replace hgy := Lib.hid hgy
  clear c40 x0 x1 x2 x3 x4 x5 y0 y1 y2 y3 y4 y5 n40 nx0 nx1 nx2 nx3 nx4 nx5 ny0 ny1 ny2 ny3 ny4 ny5
  have na3 := World.new_ne wc _ a3
  have na5 := World.new_ne wc _ a5
  have nb3 := World.new_ne wc _ b3
  have nb5 := World.new_ne wc _ b5
  go_upto_region 2 with fail
  go_region_held3 (fun w' => w'.cell? ⟨gx, 3, none⟩ = some (.int .i64 p.cls) ∧ w'.cell? ⟨gx, 5, none⟩ = some (.int .i64 p.seq) ∧ w'.cell? ⟨gy, 3, none⟩ = some (.int .i64 q.cls) ∧ w'.cell? ⟨gy, 5, none⟩ = some (.int .i64 q.seq)) (go_keep) (first | (go_at_call 88; refine (compare_any _ _ _).mono ?_; rintro e w' ⟨rfl, rfl⟩) | (go_at_call 87; refine (or_any (cmpI p.cls q.cls) (cmpI p.seq q.seq) wc.heap.size _ ?_ ?_).mono ?_; (exact cells_at (hnew wc _) 0); (exact cells_at (hnew wc _) 1); rintro e w' ⟨rfl, rfl⟩))
  all_goals
   go_wp2_with fail
   go_ret
   exact ⟨rfl, (hb.alloc hb.size _).drew, Nat.le_succ_of_le hd⟩
end Go.Proofs.Ytggfdkkhlokmlab

namespace Go.Proofs
open Go.Shelf
def Try.sortL_ren : Go.Shelf.Ren := ⟨fun | 6 => 85 | 15 => 94 | 14 => 93 | 28 => 104 | 29 => 105 | 20 => 96 | 21 => 97 | 22 => 98 | 23 => 99 | 24 => 100 | 25 => 101 | 26 => 102 | 27 => 103 | 46 => 106 | 47 => 107 | 48 => 108 | 49 => 109 | 50 => 110 | 57 => 111 | n => n, fun | 22 => 42 | 24 => 3 | 25 => 108 | 3 => 3 | 39 => 99 | 0 => 0 | 53 => 123 | 55 => 98 | 4 => 4 | 46 => 116 | 45 => 115 | 50 => 120 | 5 => 5 | 9 => 9 | 66 => 125 | 70 => 129 | 76 => 131 | 77 => 109 | n => n, fun | n => n⟩
theorem Try.sortL : Go.Proofs.SlLaysF.n6 Try.prog Try.sortL_ren := {
 mixed := by kernel_rfl
 f6 := ⟨Try.f85.name, by decide, Try.func85.trans (congrArg some (by kernel_rfl))⟩
 f14 := ⟨Try.f93.name, by decide, Try.func93.trans (congrArg some (by kernel_rfl))⟩
 f15 := Try.func94.trans (congrArg some (by kernel_rfl))
 f20 := ⟨Try.f96.name, by decide, Try.func96.trans (congrArg some (by kernel_rfl))⟩
 f21 := ⟨Try.f97.name, by decide, Try.func97.trans (congrArg some (by kernel_rfl))⟩
 f22 := ⟨Try.f98.name, by decide, Try.func98.trans (congrArg some (by kernel_rfl))⟩
 f23 := ⟨Try.f99.name, by decide, Try.func99.trans (congrArg some (by kernel_rfl))⟩
 f24 := ⟨Try.f100.name, by decide, Try.func100.trans (congrArg some (by kernel_rfl))⟩
 f25 := ⟨Try.f101.name, by decide, Try.func101.trans (congrArg some (by kernel_rfl))⟩
 f26 := ⟨Try.f102.name, by decide, Try.func102.trans (congrArg some (by kernel_rfl))⟩
 f27 := ⟨Try.f103.name, by decide, Try.func103.trans (congrArg some (by kernel_rfl))⟩
 f28 := Try.func104.trans (congrArg some (by kernel_rfl))
 f29 := Try.func105.trans (congrArg some (by kernel_rfl))
 f46 := ⟨Try.f106.name, by decide, Try.func106.trans (congrArg some (by kernel_rfl))⟩
 f47 := Try.func107.trans (congrArg some (by kernel_rfl))
 f48 := Try.func108.trans (congrArg some (by kernel_rfl))
 f49 := ⟨Try.f109.name, by decide, Try.func109.trans (congrArg some (by kernel_rfl))⟩
 f50 := ⟨Try.f110.name, by decide, Try.func110.trans (congrArg some (by kernel_rfl))⟩
 f57 := ⟨Try.f111.name, by decide, Try.func111.trans (congrArg some (by kernel_rfl))⟩
 t0 := Try.underlying0
 a0 := Try.isAgg0
 z0 := Try.sizeOf0
 v0 := Try.zeroValue0
 t3 := Try.underlying3
 a3 := Try.isAgg3
 z3 := Try.sizeOf3
 v3 := Try.zeroValue3
 t4 := Try.underlying4
 a4 := Try.isAgg4
 z4 := Try.sizeOf4
 v4 := Try.zeroValue4
 t5 := Try.underlying5
 a5 := Try.isAgg5
 z5 := Try.sizeOf5
 v5 := Try.zeroValue5
 t9 := Try.underlying9
 a9 := Try.isAgg9
 z9 := Try.sizeOf9
 v9 := Try.zeroValue9
 t22 := Try.underlying42
 a22 := Try.isAgg42
 z22 := Try.sizeOf42
 v22 := Try.zeroValue42
 a24 := Try.isAgg3
 z24 := Try.sizeOf3
 t25 := Try.underlying108
 a25 := Try.isAgg108
 z25 := Try.sizeOf108
 v25 := Try.zeroValue108
 t39 := Try.underlying99
 a39 := Try.isAgg99
 z39 := Try.sizeOf99
 v39 := Try.zeroValue99
 t45 := Try.underlying115
 a45 := Try.isAgg115
 z45 := Try.sizeOf115
 v45 := Try.zeroValue115
 t46 := Try.underlying116
 a46 := Try.isAgg116
 z46 := Try.sizeOf116
 v46 := Try.zeroValue116
 t50 := Try.underlying120
 a50 := Try.isAgg120
 z50 := Try.sizeOf120
 v50 := Try.zeroValue120
 t53 := Try.underlying123
 a53 := Try.isAgg123
 z53 := Try.sizeOf123
 v53 := Try.zeroValue123
 t55 := Try.underlying98
 a55 := Try.isAgg98
 z55 := Try.sizeOf98
 v55 := Try.zeroValue98
 t66 := Try.underlying125
 a66 := Try.isAgg125
 z66 := Try.sizeOf125
 v66 := Try.zeroValue125
 t70 := Try.underlying129
 a70 := Try.isAgg129
 z70 := Try.sizeOf129
 v70 := Try.zeroValue129
 t76 := Try.underlying131
 a76 := Try.isAgg131
 z76 := Try.sizeOf131
 v76 := Try.zeroValue131
 t77 := Try.underlying109
 a77 := Try.isAgg109
 z77 := Try.sizeOf109
 v77 := Try.zeroValue109 }
end Go.Proofs

namespace Go.Proofs.Ytggfdkkhlokmlab
open Go.RowKit Go.Shelf
attribute [local go_sem] hc_pays pc_0 pc_1 pc_2 pc_3 pc_4 pc_5
/-- A world that has only grown. -/
theorem grow_of {w w' : World} (hb : Below w.heap.size w w') (hd : w.drawn ≤ w'.drawn) : ∃ q os, w' = Sort.grow (w.drewN q) os := by
 refine ⟨w'.drawn - w.drawn, w'.heap.extract w.heap.size w'.heap.size, ?_⟩
 have h1 : (w.heap ++ w'.heap.extract w.heap.size w'.heap.size) = w'.heap := by
  apply Array.ext_getElem?
  intro i
  have hsz := hb.size
  by_cases hi : i < w.heap.size
  ·rw [Array.getElem?_append_left hi, hb.block i hi]
  ·rw [Array.getElem?_append_right (by omega), Array.getElem?_extract]
   by_cases hi2 : i < w'.heap.size
   ·rw [if_pos (by omega)]; congr 1; omega
   ·rw [if_neg (by omega)]; symm; rw [Array.getElem?_eq_none (by omega)]
 have h2 : (w.drewN (w'.drawn - w.drawn)).drawn = w'.drawn := by
  show w.drawn + (w'.drawn - w.drawn) = _; omega
 cases w'
 simp only [Sort.grow] at *
 simp only [World.mk.injEq]
 refine ⟨h1.symm, hb.tape, h2.symm, hb.os, hb.output⟩
theorem sortW_other {α : Type} [Inhabited α] (enc : α → Value) (w : World) (g m : Nat) (d : Array α) (os : Array Obj) (k : Nat) (hk : k < w.heap.size) (hne : k ≠ g) : (sortWorld enc w g 0 m d os).heap[k]? = w.heap[k]? := by
 simp only [sortWorld, Sort.grow, Sort.putRow, Sort.mapBlock, Sort.ahead]
 rw [Array.getElem?_append_left (by simpa using hk), Array.getElem?_modify, if_neg (Ne.symm hne)]
theorem sortW_row {α : Type} [Inhabited α] (enc : α → Value) (w : World) (g m : Nat) (d : Array α) (os : Array Obj) {cur : Array Value} {t : TypeId} {fr : Nat × Nat} (hg : w.heap[g]? = some (.cells cur t fr)) :
  (sortWorld enc w g 0 m d os).heap[g]? = some (.cells (Sort.putCells enc 0 d cur) t fr) := by
 simp only [sortWorld, Sort.grow, Sort.putRow, Sort.mapBlock, Sort.ahead]
 rw [Array.getElem?_append_left (by simpa using hlt hg), Array.getElem?_modify, if_pos rfl, hg]
 rfl
theorem sortW_grown {α : Type} [Inhabited α] (enc : α → Value) (w : World) (g m : Nat) (d : Array α) (os : Array Obj) : w.grownBy (sortWorld enc w g 0 m d os) (some g) :=
 ⟨rfl, rfl, rfl, by simp [sortWorld, Sort.grow, Sort.putRow, Sort.mapBlock, Sort.ahead], fun k hk hne => sortW_other enc w g m d os k hk (fun e => hne (by rw [e]))⟩
theorem putCells_get {α : Type} [Inhabited α] (enc : α → Value) (d : Array α) (cur : Array Value) (j : Nat) (hj : j < d.size) (hc : j < cur.size) : (Sort.putCells enc 0 d cur)[j]? = some (enc d[j]!) := by
 simp only [Sort.putCells, Array.getElem?_mapIdx, Array.getElem?_eq_getElem hc, Option.map_some]
 rw [if_pos (by omega)]; simp
theorem putCells_size {α : Type} [Inhabited α] (enc : α → Value) (d : Array α) (cur : Array Value) : (Sort.putCells enc 0 d cur).size = cur.size := by simp [Sort.putCells]
theorem PaysAt.grown {w w' : World} {a : Option Addr} {cap : Nat} {l : List Pay} {g : Nat} (h : PaysAt w a cap l) (hg : w.grownBy w' (some g)) (hne : ∀ b off s, a = some ⟨b, off, s⟩ → b ≠ g) : PaysAt w' a cap l :=
 ⟨h.le, h.capm, h.room, h.nil0, fun hl => let ⟨b, off, ha, hbl, hc⟩ := h.row hl
  ⟨b, off, ha, Nat.lt_of_lt_of_le hbl hg.size, fun i p hp j v hv => (World.cell?_of_block (hg.block b hbl (by simpa using hne b off none ha))).trans (hc i p hp j v hv)⟩⟩
def encF (l : List Pay) (i : Fin l.length) : Value := .int .i64 (i.val : Int)
def cfF (l : List Pay) (i k : Fin l.length) : Int := cmpP (payAt l i.val) (payAt l k.val)
theorem ltF (l : List Pay) (i k : Fin l.length) : ltOf (cfF l) i k = true ↔ (payAt l i.val).cls < (payAt l k.val).cls ∨ (payAt l i.val).cls = (payAt l k.val).cls ∧ (payAt l i.val).seq < (payAt l k.val).seq := by
 show decide (cmpP (payAt l i.val) (payAt l k.val) < 0) = true ↔ _
 rw [decide_eq_true_eq]; exact cmpP_lt
theorem ltF_no (l : List Pay) (i k : Fin l.length) : ltOf (cfF l) i k = false ↔ ¬ ((payAt l i.val).cls < (payAt l k.val).cls ∨ (payAt l i.val).cls = (payAt l k.val).cls ∧ (payAt l i.val).seq < (payAt l k.val).seq) := by
 rw [← ltF]; simp
theorem ltF_false (l : List Pay) (i k : Fin l.length) : ltOf (cfF l) k i = false ↔ leB l i.val k.val = true := by
 rw [ltF_no]; simp only [leB, leP, Bool.or_eq_true, Bool.and_eq_true, decide_eq_true_eq, beq_iff_eq]; omega
theorem swoF (l : List Pay) : Sort.SWO (ltOf (cfF l)) where
 irrefl i := by rw [ltF_no]; omega
 trans i j k h1 h2 := by rw [ltF] at *; omega
 ntrans i j k h1 h2 := by rw [ltF_no] at *; omega
set_option maxHeartbeats 1000000 in
/-- slices.SortFunc over indexes of payments, as queue.Of calls it. -/
theorem sortFunc_any (h : Hs) (l : List Pay) (a : Option Addr) (cap gh base : Nat) (v : Value) (xs : List Nat) (w : World) (hg : w.heap[gh]? = some (.cells (hc h (.slice a l.length cap)) 29 (0, 0))) (hp : PaysAt w a cap l)
  (hgb : gh < base) (hab : 0 < l.length → ∀ b off s, a = some ⟨b, off, s⟩ → b < base) (hx : ∀ x ∈ xs, x < l.length) (hown : OwnInts w base v (nats xs)) :
  Calls Try.prog 85 #[v, .func (.func 86) #[] #[.pointer (some ⟨gh, 0, none⟩)]] w fun e w' => e = .returned (.tuple #[]) ∧ ∃ ys : List Nat, ys.Perm xs ∧ (ys.Pairwise fun i k => leB l i k = true) ∧ OwnInts w' base v (nats ys) ∧ Below base w w' := by
 obtain ⟨⟨hlen, hv⟩, hroom⟩ := hown
 rw [nats_len] at hlen hv hroom
 rcases hv with ⟨rfl, h0⟩ | ⟨g, cp, cur, rfl, hbg, hgc, hn, hcm, hsz, htake⟩
 ·have hxs := List.length_eq_zero_iff.1 h0
  subst hxs
  have hS := AnyF.slices_SortFunc_none (P := Try.prog) (ρ := Try.sortL_ren) { Try.sortL with } none 0 (.func (.func 86) #[] #[.pointer (some ⟨gh, 0, none⟩)]) w
  exact hS.mono fun e w' ⟨he, hw⟩ => by
   subst hw
   exact ⟨he, [], List.Perm.refl _, List.Pairwise.nil, ⟨⟨rfl, .inl ⟨rfl, rfl⟩⟩, by simp [nats]⟩, Below.refl _ _⟩
 ·by_cases hl0 : l.length = 0
  ·have hxs : xs = [] := by
    cases xs with
    | nil => rfl
    | cons x xs => have := hx x (by simp); omega
   subst hxs
   have hS := AnyF.slices_SortFunc_none (P := Try.prog) (ρ := Try.sortL_ren) { Try.sortL with } (some ⟨g, 0, none⟩) cp (.func (.func 86) #[] #[.pointer (some ⟨gh, 0, none⟩)]) w
   exact hS.mono fun e w' ⟨he, hw⟩ => by
    subst hw
    exact ⟨he, [], List.Perm.refl _, List.Pairwise.nil, ⟨⟨rfl, .inr ⟨g, cp, cur, rfl, hbg, hgc, hn, hcm, hsz, htake⟩⟩, by simp [nats]⟩, Below.refl _ _⟩
  ·haveI : Inhabited (Fin l.length) := ⟨⟨0, by omega⟩⟩
   obtain ⟨ds, hds⟩ : ∃ ds : List (Fin l.length), ds.map (·.val) = xs := ⟨xs.attach.map fun x => ⟨x.1, hx x.1 x.2⟩, by simp [Function.comp_def]⟩
   have hdl : ds.length = xs.length := by rw [← hds]; simp
   have hget : ∀ j, j < ds.length → (nats xs)[j]? = some ((ds.toArray[j]!).val : Int) := fun j hj => by
    rw [← hds]
    simp [nats, hj]
   have hH : Sort.Holds (encF l) w g 0 ds.toArray := fun j hj => by
    have hj' : j < ds.length := by simpa using hj
    refine ⟨?_, frozenAt hgc _⟩
    rw [Nat.zero_add, cells_at hgc]
    have h1 := icells_get (hget j hj')
    rw [← htake, List.getElem?_take_of_lt (by omega)] at h1
    simpa [encF] using h1
   have hsz' : ds.toArray.size = xs.length := by simpa using hdl
   have hcmp : CmpLays1 Try.prog 86 #[.pointer (some ⟨gh, 0, none⟩)] (encF l) (cfF l) g 0 ds.toArray.size w := fun m os dk _ x y => by
    have hgh : (sortWorld (encF l) w g 0 m dk os).heap[gh]? = some (.cells (hc h (.slice a l.length cap)) 29 (0, 0)) := by
     rw [sortW_other (encF l) w g m dk os gh (hlt hg) (by omega)]; exact hg
    have hp' := hp.grown (sortW_grown (encF l) w g m dk os) (fun b off s e => by have := hab (by omega) b off s e; omega)
    exact (ofCmp_any h l a cap gh x.val y.val _ x.isLt y.isLt hgh hp').mono fun e w' ⟨he, hb, hd⟩ => ⟨he, grow_of hb hd⟩
   have eg : ∀ args w, (callFunc 86 args).run Try.prog w = .ok (.enter 86 args) w := enters_of Try.func86 (by kernel_rfl) rfl
   have hS := Any.slices_SortFunc (P := Try.prog) (ρ := Try.sortL_ren) Try.sortL (encF l) (fun _ => rfl) (cfF l) (swoF l) 86 #[.pointer (some ⟨gh, 0, none⟩)] g 0 cp ds.toArray w eg hcmp hH (hlt hgc) (by rw [hsz']; have := hn; unfold maxLen at hcm; omega)
   rw [hsz'] at hS
   refine Calls.mono (R := fun e w' => _) hS fun e w' ⟨he, d', m, os, hpm, hst, hw⟩ => ?_
   subst hw
   obtain ⟨p1, p2, p3⟩ := hpm
   rw [hsz'] at p1
   have hext : d'.extract 0 xs.length = d' := by rw [← p1]; simp
   have hext2 : ds.toArray.extract 0 xs.length = ds.toArray := by rw [← hsz']; simp
   rw [hext, hext2] at p3
   have hdl' : d'.toList.length = xs.length := by simpa using p1
   have hrow := sortW_row (encF l) w g m d' os hgc
   have hgr := sortW_grown (encF l) w g m d' os
   refine ⟨he, d'.toList.map (·.val), ?_, ?_, ⟨⟨?_, .inr ⟨g, cp, Sort.putCells (encF l) 0 d' cur, ?_, hbg, hrow, ?_, hcm, ?_, ?_⟩⟩, ?_⟩, ?_⟩
   ·rw [← hds]; exact p3.map _
   ·rw [List.pairwise_map, List.pairwise_iff_getElem]
    intro i j hi hj hij
    have h1 := hst i j (Nat.zero_le _) hij (by rw [← hdl']; exact hj)
    have hi' : i < d'.size := by simpa using hi
    have hj' : j < d'.size := by simpa using hj
    rw [getElem!_pos d' i hi', getElem!_pos d' j hj'] at h1
    have := (ltF_false l _ _).1 h1
    simpa using this
   ·simp [nats, icells, p1]
   ·simp [nats, p1]
   ·simpa [nats, p1] using hn
   ·rw [putCells_size]; exact hsz
   ·have hc' : xs.length ≤ cur.size := by omega
    apply List.ext_getElem?
    intro j
    by_cases hj : j < xs.length
    ·rw [List.getElem?_take_of_lt (by simp [nats, p1]; omega)]
     have h1 := putCells_get (encF l) d' cur j (by omega) (by omega)
     have h2 : (d'.toList.map (·.val))[j]? = some (d'[j]!).val := by
      have : j < d'.size := by omega
      simp [this]
     have h3 : (nats (d'.toList.map (·.val)))[j]? = some ((d'[j]!).val : Int) := by simp only [nats, List.getElem?_map, h2, Option.map_some]
     rw [icells_get h3]
     simpa [encF] using h1
    ·rw [List.getElem?_eq_none (by simp [nats, p1]; omega), List.getElem?_eq_none (by simp [nats, icells, p1]; omega)]
   ·simpa [nats, p1] using hroom
   ·exact (Below.refl base w).grown hgr (by have := hlt hgc; omega) (fun k hk => by cases hk; exact hbg)
end Go.Proofs.Ytggfdkkhlokmlab

namespace Go.Proofs.Ytggfdkkhlokmlab
open Go.RowKit
attribute [local go_sem] hc_pays pc_0 pc_1 pc_2 pc_3 pc_4 pc_5
theorem waits_step (l : List Pay) (bank : Int) (n : Nat) : (List.range (n + 1)).filter (waitsB l bank) = (List.range n).filter (waitsB l bank) ++ if waitsB l bank n = true then [n] else [] := by
 rw [List.range_succ, List.filter_append]; simp [List.filter_cons]
set_option maxRecDepth 100000 in
set_option maxHeartbeats 1000000 in
theorem of_any (h : Hs) (l : List Pay) (a : Option Addr) (cap : Nat) (bank : Int) (w : World) (hp : PaysAt w a cap l) :
  Calls Try.prog 69 #[.agg (hc h (.slice a l.length cap)), .int .i64 bank] w (QPost l bank w) := by
 have hroom := hp.room
 have hml : (l.length : Int) ≤ 9223372036854775807 := by have h1 := hp.le; have h2 := hp.capm; unfold maxLen at h2; omega
 obtain ⟨i0, z, hi, hz0, hz1, hz2, hz3⟩ := info3z
 have hpl : ∀ b off s, a = some ⟨b, off, s⟩ → 0 < l.length → b < w.heap.size := fun b off s e hl => by
  obtain ⟨b', off', e', hbl, _⟩ := hp.row hl
  rw [e] at e'; cases e'; exact hbl
 replace hpl := Lib.hid hpl
 go_enter Try.func69, Try.ntmps69
 go_wp2
 have hH0 := hnew w (.cells (hc h (.slice a l.length cap)) 29)
 have hB0 := (Below.refl w.heap.size w).alloc (Nat.le_refl _) (.cells (hc h (.slice a l.length cap)) 29)
 go_loopg [5, 11] l.length (fun g s5 s11 wr => ∃ (n : Nat) (xs : List Nat), n ≤ l.length ∧ g = l.length - n ∧ s11 = .int .i64 n ∧ xs = (List.range n).filter (waitsB l bank) ∧ OwnInts wr (w.heap.size + 1) s5 (nats xs) ∧ wr.heap[w.heap.size]? = some (.cells (hc h (.slice a l.length cap)) 29 (0, 0)) ∧ Below w.heap.size w wr)
 case atStart => exact ⟨0, [], by omega, rfl, rfl, rfl, OwnInts.nil _ _, hH0, hB0⟩
 case round =>
  clear hH0 hB0
  obtain ⟨n, xs, hn, rfl, rfl, hxs, hown, hg, hb⟩ := hrel
  have hsz := hb.size
  have hgl := hlt hg
  have hxl : xs.length ≤ n := by rw [hxs]; have := List.length_filter_le (waitsB l bank) (List.range n); simpa using this
  replace hxs := Lib.hid hxs
  replace hown := Lib.hid hown
  by_cases h1 : n < l.length
  ·obtain ⟨b, o, rfl, hbl, hc0⟩ := hp.row (by omega)
   have hpx := payAt_get h1
   have hst : waitsB l bank n = ((payAt l n).st == 1 && (payAt l n).frm == bank) := rfl
   obtain ⟨p, ep⟩ : ∃ p, payAt l n = p := ⟨_, rfl⟩
   rw [ep] at hpx hst
   have hcp : ∀ j v, (pc p)[j]? = some v → wr.cell? ⟨b, o + n * 6 + j, none⟩ = some v := fun j v hv => by rw [Nat.add_assoc]; exact (hb.cell (p := ⟨b, _, none⟩) hbl).trans (hc0 n p hpx j v hv)
   have hcq := cells_at (hnew wr (.cells (pc p) 70))
   have hgy := hold hg (.cells (pc p) 70)
   have hby := hb.alloc hsz (.cells (pc p) 70)
   have hoy := hown.out.alloc (.cells (pc p) 70)
   have hws := waits_step l bank n
   rw [← hxs.out] at hws
   clear hc0
   replace hcp := Lib.hid hcp
   replace ep := Lib.hid ep
   replace hpx := Lib.hid hpx
   replace hws := Lib.hid hws
   replace hst := Lib.hid hst
   replace hoy := Lib.hid hoy
   by_cases h3 : p.st = 1
   ·by_cases h4 : p.frm = bank
    ·have hw1 : waitsB l bank n = true := by rw [hst.out]; simp [h3, h4]
     have hoz := (hoy.out).alloc (.cells #[.int .i64 (n : Int)] 3)
     replace hoz := Lib.hid hoz
     replace hw1 := Lib.hid hw1
     go_wp2_with (first | go_skip | (at_builtin; refine wpList_append_own _ rfl _ _ 42 rfl (w.heap.size + 1) 3 i0 z 1 8 Try.underlying42 hi hz0 hz1 hz2 hz3 (by decide) u5 (nats xs).length (icells (nats xs)) rfl hoz.out.1 ⟨wr.heap.size + 1, 0, none⟩ 1 1 [.int .i64 (n : Int)] rfl rfl ?c1 ?c2 ?c3 ?c4 ?c5 ?_) | (refine ld_cells 70 _ rfl rfl b (o + n * 6) rfl (pc p) _ Try.underlying70 rfl info36 hcp.out ?_) | (refine st_new 70 _ _ rfl _ 70 _ rfl rfl rfl _ rfl info36 rfl (pc_one p) ?_))
     case c1 =>
      have h5 := cell_new1 (wr.alloc (.cells (pc p) 70)) (.int .i64 (n : Int)) 3
      rw [alloc_sz] at h5
      exact h5
     case c2 => intro u hu; obtain rfl := List.mem_singleton.1 hu; rfl
     case c3 => rw [nats_len]; simp only [maxLen]; omega
     case c4 => rw [nats_len]; omega
     case c5 => rw [alloc_sz, alloc_sz]; omega
     intro v' w3 hown3 hgr _
     have hO3 : OwnInts w3 (w.heap.size + 1) v' (nats (xs ++ [n])) := by
      rw [nats, List.map_append]
      exact OwnInts.snoc rfl (by rw [← nats, nats_len]; omega) hown3
     have hgz := hold hgy (.cells #[.int .i64 (n : Int)] 3)
     have hbz := hby.alloc hby.size (.cells #[.int .i64 (n : Int)] 3)
     have hb3 : Below w.heap.size w w3 := hbz.grown hgr hbz.size fun g hg => by have := hown.out.own hg; omega
     have hg3 := (hgr.block _ (hlt hgz) (fun e => by have := hown.out.own e.symm; omega)).trans hgz
     replace hown3 := Lib.hid hown3
     clear hgr
     go_wp2_with fail
     go_roundg (l.length - (n + 1))
     case measure => omega
     case rel => exact ⟨n + 1, xs ++ [n], by omega, rfl, by go_num, by rw [hws.out, if_pos hw1.out], hO3, hg3, hb3⟩
    ·have hw1 : ¬ waitsB l bank n = true := by rw [hst.out]; simp [h4]
     replace hw1 := Lib.hid hw1
     go_wp2_with (first | go_skip | (refine ld_cells 70 _ rfl rfl b (o + n * 6) rfl (pc p) _ Try.underlying70 rfl info36 hcp.out ?_) | (refine st_new 70 _ _ rfl _ 70 _ rfl rfl rfl _ rfl info36 rfl (pc_one p) ?_))
     go_roundg (l.length - (n + 1))
     case measure => omega
     case rel => exact ⟨n + 1, xs, by omega, rfl, by go_num, by rw [hws.out, if_neg hw1.out, List.append_nil], hoy.out, hgy, hby⟩
   ·have hw1 : ¬ waitsB l bank n = true := by rw [hst.out]; simp [h3]
    replace hw1 := Lib.hid hw1
    go_wp2_with (first | go_skip | (refine ld_cells 70 _ rfl rfl b (o + n * 6) rfl (pc p) _ Try.underlying70 rfl info36 hcp.out ?_) | (refine st_new 70 _ _ rfl _ 70 _ rfl rfl rfl _ rfl info36 rfl (pc_one p) ?_))
    go_roundg (l.length - (n + 1))
    case measure => omega
    case rel => exact ⟨n + 1, xs, by omega, rfl, by go_num, by rw [hws.out, if_neg hw1.out, List.append_nil], hoy.out, hgy, hby⟩
  ·have hd1 : decide ((n : Int) < (l.length : Int)) = false := by simp; omega
   have hxw : xs = waits l bank := by rw [hxs.out, show n = l.length from by omega]; rfl
   have hS := sortFunc_any h l a cap w.heap.size (w.heap.size + 1) u5 xs wr hg (hp.below hb) (by omega) (fun hl b off s e => by have := hpl.out b off s e hl; omega) (fun x hx => by rw [hxw] at hx; exact (waits_mem.1 hx).1) hown.out
   replace hxw := Lib.hid hxw
   replace hS := Lib.hid hS
   go_wp2_with (first | go_skip | (go_at_call 85; refine hS.out.mono ?_; rintro e w3 ⟨rfl, ys, hperm, hsort, hown3, hb3⟩))
   replace hown3 := Lib.hid hown3
   go_ret
   exact ⟨⟨u5, ys, rfl, ⟨by rw [← hxw.out]; exact hperm, hsort⟩, hown3.out.mono (by omega)⟩, hb.trans (hb3.mono (by omega))⟩
end Go.Proofs.Ytggfdkkhlokmlab


