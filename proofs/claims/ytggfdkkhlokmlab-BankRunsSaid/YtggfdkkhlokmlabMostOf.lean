/- The reference's MostOf: the walk. -/
import Derived.Test.YtggfdkkhlokmlabCRef
set_option linter.unusedSimpArgs false
namespace Go.Proofs.Ytggfdkkhlokmlab
open Go.RowKit
attribute [local go_sem] hc_pays hc_next hc_size nc_size
theorem five (w : World) (o1 o2 o3 o4 o5 : Obj) : (((((w.alloc o1).alloc o2).alloc o3).alloc o4).alloc o5).heap[w.heap.size]? = some o1 ∧ (((((w.alloc o1).alloc o2).alloc o3).alloc o4).alloc o5).heap[w.heap.size + 1]? = some o2 ∧ (((((w.alloc o1).alloc o2).alloc o3).alloc o4).alloc o5).heap[w.heap.size + 2]? = some o3 ∧ (((((w.alloc o1).alloc o2).alloc o3).alloc o4).alloc o5).heap[w.heap.size + 3]? = some o4 ∧ (((((w.alloc o1).alloc o2).alloc o3).alloc o4).alloc o5).heap[w.heap.size + 4]? = some o5 ∧ Below w.heap.size w (((((w.alloc o1).alloc o2).alloc o3).alloc o4).alloc o5) := by
 have h2 := hnew (w.alloc o1) o2
 have h3 := hnew ((w.alloc o1).alloc o2) o3
 have h4 := hnew (((w.alloc o1).alloc o2).alloc o3) o4
 have h5 := hnew ((((w.alloc o1).alloc o2).alloc o3).alloc o4) o5
 simp only [alloc_sz] at h2 h3 h4 h5
 exact ⟨hold (hold (hold (hold (hnew w o1) _) _) _) _, hold (hold (hold h2 _) _) _, hold (hold h3 _) _, hold h4 _, h5, (((((Below.refl w.heap.size w).alloc (Nat.le_refl _) _).alloc (by simp) _).alloc (by simp; omega) _).alloc (by simp; omega) _).alloc (by simp; omega) _⟩
theorem sofar_under {h : Hs} {l : List Pay} {s n best : Nat → Nat} (e : (fun b : Nat => (ofL l (b : Int)).length) = s) (hs : Sofar h l s (radix s n) best) (hn : ∀ b, b < 4 → n b ≤ s b) (hu : ∀ b, b < 4 → n b ≤ best b) : Sofar h l s (radix s n + 1) best := by subst e; exact hs.under hn hu
theorem sofar_not {h : Hs} {l : List Pay} {s n best : Nat → Nat} (e : (fun b : Nat => (ofL l (b : Int)).length) = s) (g : GoodP h l) (hs : Sofar h l s (radix s n) best) (hn : ∀ b, b < 4 → n b ≤ s b) (hu : togB h l (fun b => (n b : Int)) = false) : Sofar h l s (radix s n + 1) best := by subst e; exact hs.not hn fun t => by rw [(togP_iff g n).2 t] at hu; cases hu
theorem sofar_more {h : Hs} {l : List Pay} {s n best : Nat → Nat} (e : (fun b : Nat => (ofL l (b : Int)).length) = s) (g : GoodP h l) (hs : Sofar h l s (radix s n) best) (hn : ∀ b, b < 4 → n b ≤ s b) (hu : togB h l (fun b => (n b : Int)) = true) : Sofar h l s (radix s n + 1) (fun b => max (best b) (n b)) := by subst e; exact hs.more g.allPay hn ((togP_iff g n).1 hu)
set_option maxRecDepth 100000 in
set_option maxHeartbeats 1000000 in
theorem mostOf_bad (h : Hs) (l : List Pay) (a : Option Addr) (cap : Nat) (w : World) (hp : PaysAt w a cap l) (hgb : goodB h l = false) :
  Calls Try.prog 81 #[.agg (hc h (.slice a l.length cap))] w (MostPost h l w) := by
 have hm : nc (mostN h l) = nc fun _ => 0 := nc_congr fun b _ => by simp [mostN, hgb]
 replace hm := Lib.hid hm
 replace hgb := Lib.hid hgb
 replace hp := Lib.hid hp
 go_enter Try.func81, Try.ntmps81
 go_upto_region 2 with fail
 generalize hW : World.alloc (World.alloc (World.alloc (World.alloc (World.alloc w _) _) _) _) _ = W0
 obtain ⟨hgA, hgZ, hgN, _, _, hB⟩ : W0.heap[w.heap.size]? = some (.cells (hc h (.slice a l.length cap)) 29 (0, 0)) ∧ W0.heap[w.heap.size + 1]? = some (.cells (nc fun _ => 0) 25 (0, 0)) ∧ W0.heap[w.heap.size + 2]? = some (.cells (nc fun _ => 0) 25 (0, 0)) ∧ W0.heap[w.heap.size + 3]? = some (.cells (nc fun _ => 0) 25 (0, 0)) ∧ W0.heap[w.heap.size + 4]? = some (.cells (nc fun _ => 0) 25 (0, 0)) ∧ Below w.heap.size w W0 := by rw [← hW]; exact five w _ _ _ _ _
 have hp0 := hp.out.below hB
 clear hW
 go_wp2_with (first | go_skip | (refine ld_row 29 _ rfl rfl _ rfl _ _ _ _ hgA Try.underlying29 rfl info30 ?_) | (go_at_call 64; refine (isHouse_any h l _ cap _ hp0).mono ?_; rintro e w1 ⟨rfl, hb1⟩; rw [hgb.out]) | (refine ld_row 25 _ rfl rfl _ rfl _ _ _ _ (hkeep hb1 hgN) Try.underlying25 rfl info26 ?_) | (refine st_row 25 _ _ rfl rfl _ rfl _ rfl _ _ (hkeep hb1 hgZ) info26 rfl (nc_one _) ?_; intro w5 hr5 hgr5 hsz5))
 have hB1 : Below w.heap.size w w1 := hB.trans (hb1.mono hB.size)
 have hB5 : Below w.heap.size w w5 := hB1.grown hgr5 hB1.size (fun k hk => by cases hk; omega)
 exact bodyPost_ret (results_cell_row rfl _ _ _ 25 _ (0, 0) _ rfl hr5 Try.underlying25 rfl info26) rfl ⟨by rw [hm.out], hB5⟩
set_option maxRecDepth 100000 in
set_option maxHeartbeats 4000000 in
theorem mostOf_good (h : Hs) (l : List Pay) (a : Option Addr) (cap : Nat) (w : World) (hp : PaysAt w a cap l) (hgd : GoodP h l) :
  Calls Try.prog 81 #[.agg (hc h (.slice a l.length cap))] w (MostPost h l w) := by
 have hgb := goodB_yes hgd
 have hlen := hgd.len
 have hnd := hgd.nodup
 have hall := hgd.allPay
 have hmn : ∀ b, mostN h l b = (mostOf h l (b : Int) : Int) := fun b => by simp [mostN, hgb]
 obtain ⟨s, hs⟩ : ∃ s : Nat → Nat, (fun b : Nat => (ofL l (b : Int)).length) = s := ⟨_, rfl⟩
 have hsb : ∀ b : Nat, (ofL l (b : Int)).length = s b := fun b => by rw [← hs]
 have hs24 : ∀ b : Nat, s b ≤ 24 := fun b => by rw [← hsb]; have := ofL_len l (b : Int); omega
 replace hgb := Lib.hid hgb
 replace hnd := Lib.hid hnd
 replace hall := Lib.hid hall
 replace hmn := Lib.hid hmn
 replace hs := Lib.hid hs
 replace hsb := Lib.hid hsb
 replace hp := Lib.hid hp
 replace hgd := Lib.hid hgd
 go_enter Try.func81, Try.ntmps81
 go_upto_region 2 with fail
 generalize hW : World.alloc (World.alloc (World.alloc (World.alloc (World.alloc w _) _) _) _) _ = W0
 obtain ⟨hA, hZ, hT, hN, hS, hB⟩ : W0.heap[w.heap.size]? = some (.cells (hc h (.slice a l.length cap)) 29 (0, 0)) ∧ W0.heap[w.heap.size + 1]? = some (.cells (nc fun _ => 0) 25 (0, 0)) ∧ W0.heap[w.heap.size + 2]? = some (.cells (nc fun _ => 0) 25 (0, 0)) ∧ W0.heap[w.heap.size + 3]? = some (.cells (nc fun _ => 0) 25 (0, 0)) ∧ W0.heap[w.heap.size + 4]? = some (.cells (nc fun _ => 0) 25 (0, 0)) ∧ Below w.heap.size w W0 := by rw [← hW]; exact five w _ _ _ _ _
 have hp0 := hp.out.below hB
 clear hW
 go_upto_region 4 with (first | go_skip | (refine ld_row 29 _ rfl rfl _ rfl _ _ _ _ hA Try.underlying29 rfl info30 ?_) | (go_at_call 64; refine (isHouse_any h l _ cap _ hp0).mono ?_; rintro e w1 ⟨rfl, hb1⟩; rw [hgb.out]))
 have hA1 := hkeep hb1 hA
 have hZ1 := hkeep hb1 hZ
 have hT1 := hkeep hb1 hT
 have hN1 := hkeep hb1 hN
 have hS1 := hkeep hb1 hS
 have hB1 := bstep hB hB.size hb1
 clear hA hZ hT hN hS hB hp0 hb1
 go_wp2_with fail
 go_loopg [15] 4 (fun g s15 wx => ∃ m : Nat, m ≤ 4 ∧ g = 4 - m ∧ s15 = .int .i64 m ∧ wx.heap[w.heap.size]? = some (.cells (hc h (.slice a l.length cap)) 29 (0, 0)) ∧ wx.heap[w.heap.size + 1]? = some (.cells (nc fun _ => 0) 25 (0, 0)) ∧ wx.heap[w.heap.size + 2]? = some (.cells (nc fun _ => 0) 25 (0, 0)) ∧ wx.heap[w.heap.size + 3]? = some (.cells (nc fun _ => 0) 25 (0, 0)) ∧ wx.heap[w.heap.size + 4]? = some (.cells (nc fun b => if b < m then (s b : Int) else 0) 25 (0, 0)) ∧ Below w.heap.size w wx)
 case atStart => exact ⟨0, by omega, rfl, rfl, hA1, hZ1, hT1, hN1, hS1, hB1⟩
 case round =>
  clear hA1 hZ1 hT1 hN1 hS1 hB1
  obtain ⟨m, hm, rfl, rfl, hA, hZ, hT, hN, hS, hB⟩ := hrel
  by_cases h4 : m < 4
  ·have h4d : decide ((m : Int) < 4) = true := decide_eq_true (by omega)
   have hm0 : (m : Int) < 4 := by omega
   have hpr := hp.out.below hB
   go_wp2_with (first | go_skip | (refine ld_row 29 _ rfl rfl _ rfl _ _ _ _ hA Try.underlying29 rfl info30 ?_) | (go_at_call 82; refine (queueOf_any h l a cap (m : Int) _ hpr).mono ?_; rintro e w2 ⟨⟨u, ys, rfl, hq, hown⟩, hb2⟩; obtain rfl := hq.eq hnd.out; obtain ⟨al, cl, rfl, hil, hila⟩ := hown.at_; rw [nats_len, hsb.out m]; replace hq := Lib.hid hq; replace hil := Lib.hid hil; replace hila := Lib.hid hila; have cS : w2.cell? ⟨w.heap.size + 4, m, none⟩ = some (.int .i64 0) := (by rw [cells_at (hkeep hb2 hS), nc_get _ m h4]; simp); have fS := frozenAt (hkeep hb2 hS) m))
   have hS2 := hsetSame (i := m) (hkeep hb2 hS) (.int .i64 (s m : Int))
   rw [nc_set _ m _ h4] at hS2
   have hrw : nc (fun b => if b = m then (s m : Int) else if b < m then (s b : Int) else 0) = nc (fun b => if b < m + 1 then (s b : Int) else 0) := nc_congr fun b _ => by
    by_cases e : b = m
    ·subst e; simp
    ·rw [if_neg e]
     by_cases e2 : b < m
     ·rw [if_pos e2, if_pos (by omega)]
     ·rw [if_neg e2, if_neg (by omega)]
   rw [hrw] at hS2
   go_roundg (4 - (m + 1))
   case measure => omega
   case rel => exact ⟨m + 1, by omega, rfl, by go_num, hsetOther (hkeep hb2 hA) (by omega) _, hsetOther (hkeep hb2 hZ) (by omega) _, hsetOther (hkeep hb2 hT) (by omega) _, hsetOther (hkeep hb2 hN) (by omega) _, hS2, (bstep hB hB.size hb2).setCell (p := ⟨w.heap.size + 4, m, none⟩) (by show w.heap.size ≤ w.heap.size + 4; omega) _⟩
  ·obtain rfl : m = 4 := by omega
   rw [nc_congr (n := fun b => if b < 4 then (s b : Int) else 0) (m := fun b => (s b : Int)) (fun b hb => by simp [hb])] at hS
   clear hm
   go_wp2_with fail
   go_loopg [7] (radix s s) (fun g s7 wx => ∃ N T : Nat → Nat, g = radix s s - radix s N ∧ (∀ b, b < 4 → N b ≤ s b) ∧ Sofar h l s (radix s N) T ∧ wx.heap[w.heap.size]? = some (.cells (hc h (.slice a l.length cap)) 29 (0, 0)) ∧ wx.heap[w.heap.size + 1]? = some (.cells (nc fun _ => 0) 25 (0, 0)) ∧ wx.heap[w.heap.size + 2]? = some (.cells (nc fun b => (T b : Int)) 25 (0, 0)) ∧ wx.heap[w.heap.size + 3]? = some (.cells (nc fun b => (N b : Int)) 25 (0, 0)) ∧ wx.heap[w.heap.size + 4]? = some (.cells (nc fun b => (s b : Int)) 25 (0, 0)) ∧ Below w.heap.size w wx)
   case atStart => exact ⟨fun _ => 0, fun _ => 0, by simp [radix], fun b _ => Nat.zero_le _, sofar_start s, hA, hZ, hT, hN, hS, hB⟩
   case round =>
    clear hA hZ hT hN hS hB
    obtain ⟨N, T, hgg, hNs, hso, hA, hZ, hT, hN, hS, hB⟩ := hrel
    replace hgg := Lib.hid hgg
    replace hNs := Lib.hid hNs
    replace hso := Lib.hid hso
    obtain ⟨W1, rfl⟩ : ∃ W1 : World, W1 = wr := ⟨_, rfl⟩
    go_wp2_with fail
    go_loopg [25, 7] 4 (fun g s25 s7 wx => ∃ (m : Nat) (more : Bool), m ≤ 4 ∧ g = 4 - m ∧ s25 = .int .i64 m ∧ s7 = .bool more ∧ (more = false → ∀ b, b < m → N b ≤ T b) ∧ Below W1.heap.size W1 wx)
    case atStart => exact ⟨0, false, by omega, rfl, rfl, rfl, fun _ b hb => by omega, Below.refl _ _⟩
    case round =>
     obtain ⟨m, more, hm, rfl, rfl, rfl, hmo, hbw⟩ := hrel
     replace hmo := Lib.hid hmo
     by_cases h4 : m < 4
     ·have h4d : decide ((m : Int) < 4) = true := decide_eq_true (by omega)
      have hm0 : (m : Int) < 4 := by omega
      have hbn : ∀ q, Below W1.heap.size W1 (wr.drewN q) := fun q => below_drewN hbw q
      replace hbn := Lib.hid hbn
      have cT : wr.cell? ⟨w.heap.size + 2, m, none⟩ = some (.int .i64 (T m : Int)) := by rw [cells_at (hkeep hbw hT), nc_get _ m h4]
      have cN : wr.cell? ⟨w.heap.size + 3, m, none⟩ = some (.int .i64 (N m : Int)) := by rw [cells_at (hkeep hbw hN), nc_get _ m h4]
      cases more
      ·by_cases hc : (T m : Int) < (N m : Int)
       ·have hcd : decide ((N m : Int) > (T m : Int)) = true := decide_eq_true hc
        have hcd2 : decide ((T m : Int) < (N m : Int)) = true := decide_eq_true hc
        replace hc := Lib.hid hc
        go_upto_region 13 with fail
        go_big_quiet (fail)
        go_wp2_with fail
        go_roundg (4 - (m + 1))
        case measure => omega
        case rel => exact ⟨m + 1, true, by omega, rfl, by go_num, by first | rfl | (congr 1; exact decide_eq_true (by have := hc.out; omega)), (fun h => by cases h), hbn.out _⟩
       ·have hcd : decide ((N m : Int) > (T m : Int)) = false := decide_eq_false hc
        have hcd2 : decide ((T m : Int) < (N m : Int)) = false := decide_eq_false hc
        replace hc := Lib.hid hc
        go_upto_region 13 with fail
        go_big_quiet (fail)
        go_wp2_with fail
        go_roundg (4 - (m + 1))
        case measure => omega
        case rel =>
         refine ⟨m + 1, false, by omega, rfl, by go_num, by first | rfl | (congr 1; exact decide_eq_false (by have := hc.out; omega)), fun _ b hb => ?_, hbn.out _⟩
         by_cases e : b = m
         ·subst e; have := hc.out; omega
         ·exact hmo.out (by first | rfl | trivial) b (by omega)
      ·go_upto_region 13 with fail
       go_big_quiet (fail)
       go_wp2_with fail
       go_roundg (4 - (m + 1))
       case measure => omega
       case rel => exact ⟨m + 1, true, by omega, rfl, by go_num, rfl, (fun h => by cases h), hbn.out _⟩
     ·obtain rfl : m = 4 := by omega
      have hA1 := hkeep hbw hA
      have hZ1 := hkeep hbw hZ
      have hT1 := hkeep hbw hT
      have hN1 := hkeep hbw hN
      have hS1 := hkeep hbw hS
      have hB1 := bstep hB hB.size hbw
      have hp1 := hp.out.below hB1
      clear hA hZ hT hN hS hB hbw hm
      obtain ⟨bb, hbb⟩ : ∃ bb, togB h l (fun b => (N b : Int)) = bb := ⟨_, rfl⟩
      have cG := fun wx (hpx : PaysAt wx a cap l) => allTogether_any h l a cap (fun b => (N b : Int)) wx hpx
      rw [hbb] at cG
      replace hbb := Lib.hid hbb
      replace cG := Lib.hid cG
      obtain ⟨W2, rfl⟩ : ∃ W2 : World, W2 = wr := ⟨_, rfl⟩
      go_upto_region 15 with fail
      go_cut [44] (fun s44 wx => ∃ c : Bool, s44 = .bool c ∧ (c = false → Sofar h l s (radix s N + 1) T) ∧ (c = true → togB h l (fun b => (N b : Int)) = true) ∧ Below W2.heap.size W2 wx)
      case first =>
       cases more
       ·have hu := sofar_under hs.out hso.out hNs.out (hmo.out (by first | rfl | trivial))
        replace hu := Lib.hid hu
        go_wp2_with fail
        go_meet
        case rel => exact ⟨false, rfl, fun _ => hu.out, (fun h => by cases h), Below.refl _ _⟩
       ·go_wp2_with (first | go_skip | (refine ld_row 29 _ rfl rfl _ rfl _ _ _ _ hA1 Try.underlying29 rfl info30 ?_) | (refine ld_row 25 _ rfl rfl _ rfl _ _ _ _ hN1 Try.underlying25 rfl info26 ?_) | (go_at_call 90; refine (cG.out _ hp1).mono ?_; rintro e w3 ⟨rfl, hb3⟩))
        go_meet
        case rel => exact ⟨bb, rfl, (fun e => sofar_not hs.out hgd.out hso.out hNs.out (by rw [hbb.out, e])), (fun e => by rw [hbb.out, e]), hb3⟩
      case rest =>
       obtain ⟨c, rfl, hc0, hc1, hb3⟩ := hcut
       have hA := hkeep hb3 hA1
       have hZ := hkeep hb3 hZ1
       have hT := hkeep hb3 hT1
       have hN := hkeep hb3 hN1
       have hS := hkeep hb3 hS1
       have hB := bstep hB1 hB1.size hb3
       clear hA1 hZ1 hT1 hN1 hS1 hB1 hp1 hb3 cG hbb
       replace hc0 := Lib.hid hc0
       replace hc1 := Lib.hid hc1
       go_upto_if 44 with fail
       go_cut [44] (fun s44 wx => ∃ T1 : Nat → Nat, Sofar h l s (radix s N + 1) T1 ∧ wx.heap[w.heap.size]? = some (.cells (hc h (.slice a l.length cap)) 29 (0, 0)) ∧ wx.heap[w.heap.size + 1]? = some (.cells (nc fun _ => 0) 25 (0, 0)) ∧ wx.heap[w.heap.size + 2]? = some (.cells (nc fun b => (T1 b : Int)) 25 (0, 0)) ∧ wx.heap[w.heap.size + 3]? = some (.cells (nc fun b => (N b : Int)) 25 (0, 0)) ∧ wx.heap[w.heap.size + 4]? = some (.cells (nc fun b => (s b : Int)) 25 (0, 0)) ∧ Below w.heap.size w wx)
       case first =>
        cases c
        ·go_wp2_with fail
         go_meet
         case rel => exact ⟨T, hc0.out (by first | rfl | trivial), hA, hZ, hT, hN, hS, hB⟩
        ·have hu := sofar_more hs.out hgd.out hso.out hNs.out (hc1.out (by first | rfl | trivial))
         replace hu := Lib.hid hu
         go_wp2_with fail
         go_loopg [45] 4 (fun g s45 wx => ∃ m : Nat, m ≤ 4 ∧ g = 4 - m ∧ s45 = .int .i64 m ∧ wx.heap[w.heap.size]? = some (.cells (hc h (.slice a l.length cap)) 29 (0, 0)) ∧ wx.heap[w.heap.size + 1]? = some (.cells (nc fun _ => 0) 25 (0, 0)) ∧ wx.heap[w.heap.size + 2]? = some (.cells (nc fun b => ((if b < m then max (T b) (N b) else T b : Nat) : Int)) 25 (0, 0)) ∧ wx.heap[w.heap.size + 3]? = some (.cells (nc fun b => (N b : Int)) 25 (0, 0)) ∧ wx.heap[w.heap.size + 4]? = some (.cells (nc fun b => (s b : Int)) 25 (0, 0)) ∧ Below w.heap.size w wx)
         case atStart => exact ⟨0, by omega, rfl, rfl, hA, hZ, by simpa using hT, hN, hS, hB⟩
         case round =>
          clear hA hZ hT hN hS hB
          obtain ⟨m, hm, rfl, rfl, hA, hZ, hT, hN, hS, hB⟩ := hrel
          by_cases h4 : m < 4
          ·have h4d : decide ((m : Int) < 4) = true := decide_eq_true (by omega)
           have hm0 : (m : Int) < 4 := by omega
           have cT : wr.cell? ⟨w.heap.size + 2, m, none⟩ = some (.int .i64 (T m : Int)) := by rw [cells_at hT, nc_get _ m h4]; simp
           have cN : wr.cell? ⟨w.heap.size + 3, m, none⟩ = some (.int .i64 (N m : Int)) := by rw [cells_at hN, nc_get _ m h4]
           have hmx : max (T m : Int) (N m : Int) = ((max (T m) (N m) : Nat) : Int) := by omega
           have hcI : ∀ w', Below wr.heap.size wr w' → w'.cell? ⟨w.heap.size + 2, m, none⟩ = some (.int .i64 (T m : Int)) ∧ w'.cell? ⟨w.heap.size + 3, m, none⟩ = some (.int .i64 (N m : Int)) := fun w' hb =>
            ⟨(hb.cell (p := ⟨w.heap.size + 2, m, none⟩) (World.block_lt_of_cell? _ _ cT)).trans cT, (hb.cell (p := ⟨w.heap.size + 3, m, none⟩) (World.block_lt_of_cell? _ _ cN)).trans cN⟩
           replace hcI := Lib.hid hcI
           clear cT cN
           go_upto_region 19 with fail
           refine wpG_start (Below wr.heap.size wr) 9 (by kernel_rfl) ?_
           have hI0 : Below wr.heap.size wr wr.drew := (Below.refl _ _).drew
           refine wpG_at 48 (i := 0) (oi := _) (v := (.int .i64 (m : Int))) [0] rfl rfl (by kernel_rfl) (by kernel_rfl) (by kernel_rfl) (by kernel_rfl) (fun _ _ _ h => h) hI0 ?hy0 ?rs0
           case hy0 => exact Or.inl ⟨by rfl, by intro w' hb; obtain ⟨c1, c2⟩ := hcI.out w' hb; go_simp⟩
           (try simp only [Act.put, List.setIfInBounds_toArray, List.set_cons_succ, List.set_cons_zero])
           refine wpG_at 49 (i := 1) (oi := _) (v := (.int .i64 (m : Int))) [1] rfl rfl (by kernel_rfl) (by kernel_rfl) (by kernel_rfl) (by kernel_rfl) (fun _ _ _ h => h) hI0 ?hy1 ?rs1
           case hy1 => exact Or.inl ⟨by rfl, by intro w' hb; obtain ⟨c1, c2⟩ := hcI.out w' hb; go_simp⟩
           (try simp only [Act.put, List.setIfInBounds_toArray, List.set_cons_succ, List.set_cons_zero])
           refine wpG_at 50 (i := 2) (oi := _) (v := (.pointer (some ⟨w.heap.size + 2, m, none⟩))) [2] rfl rfl (by kernel_rfl) (by kernel_rfl) (by kernel_rfl) (by kernel_rfl) (fun _ _ _ h => h) hI0 ?hy2 ?rs2
           case hy2 => exact Or.inl ⟨by rfl, by intro w' hb; obtain ⟨c1, c2⟩ := hcI.out w' hb; go_simp⟩
           (try simp only [Act.put, List.setIfInBounds_toArray, List.set_cons_succ, List.set_cons_zero])
           refine wpG_at 51 (i := 3) (oi := _) (v := (.int .i64 (T m : Int))) [3] rfl rfl (by kernel_rfl) (by kernel_rfl) (by kernel_rfl) (by kernel_rfl) (fun _ _ _ h => h) hI0 ?hy3 ?rs3
           case hy3 => exact Or.inl ⟨by rfl, by intro w' hb; obtain ⟨c1, c2⟩ := hcI.out w' hb; go_simp⟩
           (try simp only [Act.put, List.setIfInBounds_toArray, List.set_cons_succ, List.set_cons_zero])
           refine wpG_at 52 (i := 4) (oi := _) (v := (.int .i64 (m : Int))) [4] rfl rfl (by kernel_rfl) (by kernel_rfl) (by kernel_rfl) (by kernel_rfl) (fun _ _ _ h => h) hI0 ?hy4 ?rs4
           case hy4 => exact Or.inl ⟨by rfl, by intro w' hb; obtain ⟨c1, c2⟩ := hcI.out w' hb; go_simp⟩
           (try simp only [Act.put, List.setIfInBounds_toArray, List.set_cons_succ, List.set_cons_zero])
           refine wpG_at 53 (i := 5) (oi := _) (v := (.pointer (some ⟨w.heap.size + 3, m, none⟩))) [5] rfl rfl (by kernel_rfl) (by kernel_rfl) (by kernel_rfl) (by kernel_rfl) (fun _ _ _ h => h) hI0 ?hy5 ?rs5
           case hy5 => exact Or.inl ⟨by rfl, by intro w' hb; obtain ⟨c1, c2⟩ := hcI.out w' hb; go_simp⟩
           (try simp only [Act.put, List.setIfInBounds_toArray, List.set_cons_succ, List.set_cons_zero])
           refine wpG_at 54 (i := 6) (oi := _) (v := (.int .i64 (N m : Int))) [6] rfl rfl (by kernel_rfl) (by kernel_rfl) (by kernel_rfl) (by kernel_rfl) (fun _ _ _ h => h) hI0 ?hy6 ?rs6
           case hy6 => exact Or.inl ⟨by rfl, by intro w' hb; obtain ⟨c1, c2⟩ := hcI.out w' hb; go_simp⟩
           (try simp only [Act.put, List.setIfInBounds_toArray, List.set_cons_succ, List.set_cons_zero])
           refine wpG_at 55 (i := 7) (oi := _) (v := (.int .i64 ((max (T m) (N m) : Nat) : Int))) [7] rfl rfl (by kernel_rfl) (by kernel_rfl) (by kernel_rfl) (by kernel_rfl) (fun _ _ _ h => h) hI0 ?hy7 ?rs7
           case hy7 => exact Or.inl ⟨by rfl, by intro w' hb; obtain ⟨c1, c2⟩ := hcI.out w' hb; go_simp⟩
           (try simp only [Act.put, List.setIfInBounds_toArray, List.set_cons_succ, List.set_cons_zero])
           refine wpG_at 56 (i := 8) (oi := _) (v := (.pointer (some ⟨w.heap.size + 2, m, none⟩))) [8] rfl rfl (by kernel_rfl) (by kernel_rfl) (by kernel_rfl) (by kernel_rfl) (fun _ _ _ h => h) hI0 ?hy8 ?rs8
           case hy8 => exact Or.inl ⟨by rfl, by intro w' hb; obtain ⟨c1, c2⟩ := hcI.out w' hb; go_simp⟩
           (try simp only [Act.put, List.setIfInBounds_toArray, List.set_cons_succ, List.set_cons_zero])
           refine wpG_drop 9 rfl (by kernel_rfl) ?_
           simp only [List.drop_succ_cons, List.drop_zero]
           have hT9 := hkeep hI0 hT
           have cX : wr.drew.cell? ⟨w.heap.size + 2, m, none⟩ = some (.int .i64 (T m : Int)) := (hcI.out _ hI0).1
           have fX := frozenAt hT9 m
           have hT2 := hsetSame (i := m) hT9 (.int .i64 ((max (T m) (N m) : Nat) : Int))
           have hrw : (nc fun b => ((if b < m then max (T b) (N b) else T b : Nat) : Int)).setIfInBounds m (.int .i64 ((max (T m) (N m) : Nat) : Int)) = nc fun b => ((if b < m + 1 then max (T b) (N b) else T b : Nat) : Int) := by
            rw [nc_set _ m _ h4]
            refine nc_congr fun b _ => ?_
            by_cases e : b = m
            ·subst e; simp
            ·rw [if_neg e]
             by_cases e2 : b < m
             ·rw [if_pos e2, if_pos (by omega)]
             ·rw [if_neg e2, if_neg (by omega)]
           rw [hrw] at hT2
           go_wp2_with fail
           go_roundg (4 - (m + 1))
           case measure => omega
           case rel => exact ⟨m + 1, by omega, rfl, by go_num, hsetOther (hkeep hI0 hA) (by omega) _, hsetOther (hkeep hI0 hZ) (by omega) _, hT2, hsetOther (hkeep hI0 hN) (by omega) _, hsetOther (hkeep hI0 hS) (by omega) _, (bstep hB hB.size hI0).setCell (p := ⟨w.heap.size + 2, m, none⟩) (by show w.heap.size ≤ w.heap.size + 2; omega) _⟩
          ·obtain rfl : m = 4 := by omega
           rw [nc_congr (n := fun b => ((if b < 4 then max (T b) (N b) else T b : Nat) : Int)) (m := fun b => ((max (T b) (N b) : Nat) : Int)) (fun b hb => by simp [hb])] at hT
           clear hm
           go_wp2_with fail
           go_meet
           case rel => exact ⟨fun b => max (T b) (N b), hu.out, hA, hZ, hT, hN, hS, hB⟩
       case rest =>
        clear hA hZ hT hN hS hB hc0 hc1
        obtain ⟨T1, hso1, hA, hZ, hT, hN, hS, hB⟩ := hcut
        replace hso1 := Lib.hid hso1
        go_wp2_with fail
        go_loopg [10] 4 (fun g s10 wx => ∃ b : Nat, b ≤ 4 ∧ g = 4 - b ∧ s10 = .int .i64 b ∧ (∀ c, c < b → N c = s c) ∧ wx.heap[w.heap.size]? = some (.cells (hc h (.slice a l.length cap)) 29 (0, 0)) ∧ wx.heap[w.heap.size + 1]? = some (.cells (nc fun _ => 0) 25 (0, 0)) ∧ wx.heap[w.heap.size + 2]? = some (.cells (nc fun b => (T1 b : Int)) 25 (0, 0)) ∧ wx.heap[w.heap.size + 3]? = some (.cells (nc fun c => ((if c < b then 0 else N c : Nat) : Int)) 25 (0, 0)) ∧ wx.heap[w.heap.size + 4]? = some (.cells (nc fun b => (s b : Int)) 25 (0, 0)) ∧ Below w.heap.size w wx)
        case atStart => exact ⟨0, by omega, rfl, rfl, fun c hc => by omega, hA, hZ, hT, by simpa using hN, hS, hB⟩
        case round =>
         clear hA hZ hT hN hS hB
         obtain ⟨b, hb4, rfl, rfl, hbc, hA, hZ, hT, hN, hS, hB⟩ := hrel
         replace hbc := Lib.hid hbc
         by_cases h4 : b < 4
         ·have h4d : decide ((b : Int) < 4) = true := decide_eq_true (by omega)
          have hb0 : (b : Int) < 4 := by omega
          have hNb := hNs.out b h4
          have hsb4 := hs24 b
          have cN : wr.cell? ⟨w.heap.size + 3, b, none⟩ = some (.int .i64 (N b : Int)) := by rw [cells_at hN, nc_get _ b h4]; simp
          have cS : wr.cell? ⟨w.heap.size + 4, b, none⟩ = some (.int .i64 (s b : Int)) := by rw [cells_at hS, nc_get _ b h4]
          by_cases he : N b = s b
          ·have heq : ((N b : Int) == (s b : Int)) = true := by rw [he]; simp
           have hn3 := hkeep (below_drewN (Below.refl wr.heap.size wr) 0) hN
           replace he := Lib.hid he
           go_upto_region 22 with fail
           go_big_quiet (fail)
           have hbd : Below wr.heap.size wr (wr.drewN nq) := below_drewN (Below.refl _ _) nq
           have hA9 := hkeep hbd hA
           have hZ9 := hkeep hbd hZ
           have hT9 := hkeep hbd hT
           have hN9 := hkeep hbd hN
           have hS9 := hkeep hbd hS
           have hB9 := bstep hB hB.size hbd
           have fN := frozenAt hN9 b
           have cN9 : (wr.drewN nq).cell? ⟨w.heap.size + 3, b, none⟩ = some (.int .i64 (N b : Int)) := by rw [cells_at hN9, nc_get _ b h4]; simp
           have hN2 := hsetSame (i := b) hN9 (.int .i64 0)
           have hrw : (nc fun c => ((if c < b then 0 else N c : Nat) : Int)).setIfInBounds b (.int .i64 0) = nc fun c => ((if c < b + 1 then 0 else N c : Nat) : Int) := by
            rw [nc_set _ b _ h4]
            refine nc_congr fun c _ => ?_
            by_cases e : c = b
            ·subst e; simp
            ·rw [if_neg e]
             by_cases e2 : c < b
             ·rw [if_pos e2, if_pos (by omega)]
             ·rw [if_neg e2, if_neg (by omega)]
           rw [hrw] at hN2
           go_wp2_with fail
           go_roundg (4 - (b + 1))
           case measure => omega
           case rel =>
            refine ⟨b + 1, by omega, rfl, by go_num, fun c hc => ?_, hsetOther hA9 (by omega) _, hsetOther hZ9 (by omega) _, hsetOther hT9 (by omega) _, hN2, hsetOther hS9 (by omega) _, hB9.setCell (p := ⟨w.heap.size + 3, b, none⟩) (by show w.heap.size ≤ w.heap.size + 3; omega) _⟩
            by_cases e : c = b
            ·subst e; exact he.out
            ·exact hbc.out c (by omega)
          ·have heq : ((N b : Int) == (s b : Int)) = false := by rw [beq_eq_false_iff_ne]; omega
           have hb4n : ((b : Int) == 4) = false := by rw [beq_eq_false_iff_ne]; omega
           have hNs1 : N b + 1 ≤ s b := by omega
           have hN24 : (N b : Int) < 24 := by omega
           have hrx := radix_next (s := s) (n := N) h4 hbc.out
           have hle1 : ∀ c, c < 4 → nextN N b c ≤ s c := fun c hc => by
            unfold nextN
            split
            ·rename_i e; subst e; exact hNs1
            ·split
             ·omega
             ·exact hNs.out c hc
           have hrl := radix_le hle1
           replace he := Lib.hid he
           replace hrx := Lib.hid hrx
           replace hrl := Lib.hid hrl
           replace hle1 := Lib.hid hle1
           go_upto_region 22 with fail
           go_big_quiet (fail)
           have hbd : Below wr.heap.size wr (wr.drewN nq) := below_drewN (Below.refl _ _) nq
           have hA9 := hkeep hbd hA
           have hZ9 := hkeep hbd hZ
           have hT9 := hkeep hbd hT
           have hN9 := hkeep hbd hN
           have hS9 := hkeep hbd hS
           have hB9 := bstep hB hB.size hbd
           have fN := frozenAt hN9 b
           have cN9 : (wr.drewN nq).cell? ⟨w.heap.size + 3, b, none⟩ = some (.int .i64 (N b : Int)) := by rw [cells_at hN9, nc_get _ b h4]; simp
           have hN2 := hsetSame (i := b) hN9 (.int .i64 ((N b : Int) + 1))
           have hrw : (nc fun c => ((if c < b then 0 else N c : Nat) : Int)).setIfInBounds b (.int .i64 ((N b : Int) + 1)) = nc fun c => ((nextN N b c : Nat) : Int) := by
            rw [nc_set _ b _ h4]
            refine nc_congr fun c _ => ?_
            unfold nextN
            by_cases e : c = b
            ·subst e; simp
            ·rw [if_neg e, if_neg e]
           rw [hrw] at hN2
           go_wp2_with fail
           go_roundg (radix s s - radix s (nextN N b))
           case measure => have h1 := hgg.out; have h2 := hrx.out; have h3 := hrl.out; omega
           case rel => exact ⟨nextN N b, T1, rfl, hle1.out, by rw [hrx.out]; exact hso1.out, hsetOther hA9 (by omega) _, hsetOther hZ9 (by omega) _, hsetOther hT9 (by omega) _, hN2, hsetOther hS9 (by omega) _, hB9.setCell (p := ⟨w.heap.size + 3, b, none⟩) (by show w.heap.size ≤ w.heap.size + 3; omega) _⟩
         ·obtain rfl : b = 4 := by omega
          have h4d : decide (((4 : Nat) : Int) < 4) = false := by decide
          have hfn : nc (mostN h l) = nc fun b => (T1 b : Int) := nc_congr fun b hb => by
           have hNl : ∀ c, c < 4 → N c = (ofL l (c : Int)).length := fun c hc => by rw [hbc.out c hc, hsb.out]
           have hso2 := hso1.out
           rw [← hs.out] at hso2
           rw [hmn.out, hso2.done hall.out hNl hb]
          replace hfn := Lib.hid hfn
          clear hb4
          go_upto_region 22 with fail
          go_big_quiet (fail)
          have hbd : Below wr.heap.size wr (wr.drewN nq) := below_drewN (Below.refl _ _) nq
          have hZ9 := hkeep hbd hZ
          have hT9 := hkeep hbd hT
          have hB9 := bstep hB hB.size hbd
          go_wp2_with (first | go_skip | (refine ld_row 25 _ rfl rfl _ rfl _ _ _ _ hT9 Try.underlying25 rfl info26 ?_) | (refine st_row 25 _ _ rfl rfl _ rfl _ rfl _ _ hZ9 info26 rfl (nc_one _) ?_; intro w5 hr5 hgr5 hsz5))
          have hB5 : Below w.heap.size w w5 := hB9.grown hgr5 hB9.size (fun k hk => by cases hk; omega)
          exact bodyPost_ret (results_cell_row rfl _ _ _ 25 _ (0, 0) _ rfl hr5 Try.underlying25 rfl info26) rfl ⟨by rw [hfn.out], hB5⟩
theorem mostOf_any (h : Hs) (l : List Pay) (a : Option Addr) (cap : Nat) (w : World) (hp : PaysAt w a cap l) : Calls Try.prog 81 #[.agg (hc h (.slice a l.length cap))] w (MostPost h l w) := by
 cases hg : goodB h l
 ·exact mostOf_bad h l a cap w hp hg
 ·exact mostOf_good h l a cap w hp (goodB_true hg)
end Go.Proofs.Ytggfdkkhlokmlab


