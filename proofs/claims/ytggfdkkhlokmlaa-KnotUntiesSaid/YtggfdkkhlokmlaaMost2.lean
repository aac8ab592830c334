/- knot.Most on a good house. -/
import Derived.Test.YtggfdkkhlokmlaaMost
import Derived.BigQuiet
namespace Go.Proofs.Ytggfdkkhlokmlaa
open Go.RowKit
attribute [local go_sem] hc_has hc_cr hc_sent hc_lim hc_pays hc_next hc_size pc_0 pc_1 pc_2 pc_3 pc_4 pc_5 qc_size nc_size
/-- Most on its way: n bounds whatever may be done together. -/
structure Up (h : Hs) (l : List Pay) (N : Int → Nat) : Prop where
  le : ∀ b, 0 ≤ b → b < 4 → N b ≤ (ofL l b).length
  most : ∀ m, Tog h l m → LeN m N
theorem Up.start (h : Hs) (l : List Pay) : Up h l (fun b => (ofL l b).length) := ⟨fun _ _ _ => Nat.le_refl _, fun _ ht => ht.le⟩
theorem Up.less {h : Hs} {l : List Pay} (hl : AllPay l) {N : Int → Nat} (u : Up h l N) {b : Int} (hb : 0 ≤ b ∧ b < 4) (hn : ¬ Fine (after l N h) b (N b)) : Up h l (lessN N b) where
  le := fun c c0 c1 => by
    have := u.le c c0 c1
    simp only [lessN]
    split
    · rename_i e; subst e; omega
    · omega
  most := fewer hl hb hn u.most
theorem Up.is {h : Hs} {l : List Pay} (hl : AllPay l) {N : Int → Nat} (u : Up h l N) (hf : ∀ b, 0 ≤ b → b < 4 → Fine (after l N h) b (N b)) {b : Int} (h0 : 0 ≤ b) (h1 : b < 4) : N b = mostOf h l b :=
  IsMost.unique ⟨⟨u.le, hf⟩, u.most⟩ (mostOf_is h hl) h0 h1
theorem fine_fineB {x : Hs} {b : Int} {n : Nat} : fineB x b (n : Int) = true ↔ Fine x b n := by
  constructor
  · intro h; rcases fineB_true h with h | h
    · exact .inl (by omega)
    · exact .inr h
  · rintro (h | h)
    · exact fineB_yes (.inl (by omega))
    · exact fineB_yes (.inr h)
theorem near_after {h : Hs} {l : List Pay} (hn : Near h 0) (hlen : l.length ≤ 24) (N : Int → Nat) : Near (after l N h) 96 := by
  have h1 := Near.moves (l := l) (firsts l N 4) hn (by omega)
  refine h1.mono ?_
  have := firsts_len l N
  omega
set_option maxRecDepth 100000 in
set_option maxHeartbeats 4000000 in
theorem most_good (h : Hs) (l : List Pay) (a : Option Addr) (cap : Nat) (w : World) (hp : PaysAt w a cap l) (hgd : GoodP h l) :
    Calls Try.prog 56 #[.agg (hc h (.slice a l.length cap))] w (MostPost h l w) := by
  have hgb := goodB_yes hgd
  have hlen := hgd.len
  have hnd := hgd.nodup
  have hall := hgd.allPay
  have hnear := hgd.near
  have hmn : ∀ b, mostN h l b = (mostOf h l (b : Int) : Int) := fun b => by simp [mostN, hgb]
  have hpb : 0 < l.length → ∀ b off s, a = some ⟨b, off, s⟩ → b ≠ w.heap.size + 2 := fun hl b off s e => by
    obtain ⟨b', off', e', hbl, _⟩ := hp.row hl
    rw [e] at e'; cases e'; omega
  clear hgd
  replace hgb := Lib.hid hgb
  replace hnd := Lib.hid hnd
  replace hall := Lib.hid hall
  replace hnear := Lib.hid hnear
  replace hmn := Lib.hid hmn
  replace hpb := Lib.hid hpb
  replace hp := Lib.hid hp
  go_enter Try.func56, Try.ntmps56
  go_upto_region 2 with fail
  generalize hW : World.alloc (World.alloc (World.alloc w _) _) _ = W0
  have hgA : W0.heap[w.heap.size]? = some (.cells (hc h (.slice a l.length cap)) 30 (0, 0)) := by rw [← hW]; exact hold (heap_alloc2_old w _ _) _
  have hgZ : W0.heap[w.heap.size + 1]? = some (.cells (nc fun _ => 0) 26 (0, 0)) := by rw [← hW]; exact hold (heap_alloc2_new w _ _) _
  have hgN : W0.heap[w.heap.size + 2]? = some (.cells (nc fun _ => 0) 26 (0, 0)) := by
    rw [← hW]
    have := hnew (World.alloc (World.alloc w (.cells (hc h (.slice a l.length cap)) 30)) (.cells (nc fun _ => 0) 26)) (.cells (nc fun _ => 0) 26)
    rw [alloc_sz, alloc_sz] at this
    exact this
  have hB : Below w.heap.size w W0 := by rw [← hW]; exact (((Below.refl w.heap.size w).alloc (Nat.le_refl _) _).alloc (by simp) _).alloc (by simp; omega) _
  have hp0 := hp.out.below hB
  clear hW
  go_upto_region 4 with (first | go_skip | (refine ld_row 30 _ rfl rfl _ rfl _ _ _ _ hgA Try.underlying30 rfl info30 ?_) | (go_at_call 16; refine (good_any h l _ cap _ hp0).mono ?_; rintro e w1 ⟨rfl, hb1⟩; rw [hgb.out]))
  have hgA1 := hkeep hb1 hgA
  have hp1 := hp0.below hb1
  have hB1 : Below w.heap.size w w1 := hB.trans (hb1.mono hB.size)
  go_wp2_with (first | go_skip | (refine ld_row 30 _ rfl rfl _ rfl _ _ _ _ hgA1 Try.underlying30 rfl info30 ?_))
  refine (queues_any h l a cap _ hp1).mono ?_
  rintro e w2 ⟨⟨q, xs, rfl, hqs⟩, hb2⟩
  have hxs : ∀ b : Nat, b < 4 → xs b = ofL l (b : Int) := fun b hb => (hqs b hb).1.eq hnd.out
  have hqw : ∀ b : Nat, b < 4 → OwnInts (w2.alloc (.cells (qc q) 93)) w1.heap.size (q b) (nats (xs b)) := fun b hb => (hqs b hb).2.alloc _
  have hone : (qc q).all (·.oneCell') = true := qc_one fun b hb => (hqs b hb).2.one
  have hA := hold (hkeep hb2 hgA1) (.cells (qc q) 93)
  have hZ := hold (hkeep hb2 (hkeep hb1 hgZ)) (.cells (qc q) 93)
  have hN := hold (hkeep hb2 (hkeep hb1 hgN)) (.cells (qc q) 93)
  have hL := hnew w2 (.cells (qc q) 93)
  have hpW := (hp1.below hb2).alloc (.cells (qc q) 93)
  have hB2 : Below w.heap.size w w2 := hB1.trans (hb2.mono hB1.size)
  have hBW := hB2.alloc hB2.size (.cells (qc q) 93)
  have hw1 : w.heap.size + 2 < w1.heap.size := hlt (hkeep hb1 hgN)
  clear hgA hgZ hgN hB hp0 hb1 hgA1 hp1 hB1 hB2
  replace hqs := Lib.hid hqs
  replace hA := Lib.hid hA
  replace hZ := Lib.hid hZ
  replace hN := Lib.hid hN
  replace hL := Lib.hid hL
  go_upto_region 5 with (first | go_skip | (refine st_new 93 _ _ rfl _ 93 _ rfl rfl rfl (qc q) rfl info93 rfl hone ?_))
  replace hA := hA.out
  replace hZ := hZ.out
  replace hN := hN.out
  replace hL := hL.out
  generalize hW : w2.alloc (.cells (qc q) 93) = W at *
  generalize hC0 : w2.heap.size = bl at *
  clear hW hC0
  have hql : ∀ b : Nat, b < 4 → ∃ al cl, q b = .slice al (xs b).length cl ∧ IntsAt W al cl (nats (xs b)) ∧ (0 < (nats (xs b)).length → ∀ b' off s, al = some ⟨b', off, s⟩ → b' ≠ w.heap.size + 2) := fun b hb => by
    obtain ⟨al, cl, e, hi, hbb⟩ := (hqw b hb).at_
    rw [nats_len] at e
    exact ⟨al, cl, e, hi, fun _ b' off s e' => by have := hbb b' off s e'; omega⟩
  have hbl : bl < W.heap.size := hlt hL
  have hbln : bl ≠ w.heap.size + 2 := fun e => by rw [e, hN] at hL; simp at hL
  have hxl : ∀ b : Nat, b < 4 → (xs b).length ≤ 24 := fun b hb => by rw [hxs b hb]; have := ofL_len l (b : Int); omega
  replace hxs := Lib.hid hxs
  replace hql := Lib.hid hql
  replace hxl := Lib.hid hxl
  replace hbln := Lib.hid hbln
  clear hqw
  have hbn : w.heap.size + 2 < W.heap.size := hlt hN
  replace hA := Lib.hid hA
  replace hZ := Lib.hid hZ
  replace hL := Lib.hid hL
  go_wp2_with fail
  go_loopg [16] 4 (fun g s16 wr => ∃ m : Nat, m ≤ 4 ∧ g = 4 - m ∧ s16 = .int .i64 m ∧ W.grownBy wr (some (w.heap.size + 2)) ∧ wr.heap[w.heap.size + 2]? = some (.cells (nc fun b => if b < m then ((xs b).length : Int) else 0) 26 (0, 0)) ∧ Below w.heap.size w wr)
  case atStart => exact ⟨0, by omega, rfl, rfl, grown_refl _ _, hN, hBW⟩
  case round =>
    clear hN hBW
    obtain ⟨m, hm, rfl, rfl, hK, hN, hB⟩ := hrel
    by_cases h4 : m < 4
    · obtain ⟨al, cl, eq, hil, _⟩ := hql.out m h4
      have hLr := (hK.block bl hbl (by simpa using hbln.out)).trans hL.out
      have cL : wr.cell? ⟨bl, m, none⟩ = some (.slice al (xs m).length cl) := by rw [cells_at hLr, qc_get q m h4, eq]
      have cN : wr.cell? ⟨w.heap.size + 2, m, none⟩ = some (.int .i64 0) := by rw [cells_at hN, nc_get _ m h4]; simp
      have fN := frozenAt hN m
      have h4d : decide ((m : Int) < 4) = true := decide_eq_true (by omega)
      have hm0 : (m : Int) < 4 := by omega
      have hN2 := hsetSame (i := m) hN (.int .i64 ((xs m).length : Int))
      rw [nc_set _ m _ h4] at hN2
      have hK2 := grown_set (i := m) hK (.int .i64 ((xs m).length : Int))
      have hB2 := hB.setCell (p := ⟨w.heap.size + 2, m, none⟩) (by show w.heap.size ≤ w.heap.size + 2; omega) (.int .i64 ((xs m).length : Int))
      have hrw : nc (fun b => if b = m then ((xs m).length : Int) else if b < m then ((xs b).length : Int) else 0) = nc (fun b => if b < m + 1 then ((xs b).length : Int) else 0) := nc_congr fun b _ => by
        by_cases e : b = m
        · subst e; simp
        · rw [if_neg e]
          by_cases e2 : b < m
          · rw [if_pos e2, if_pos (by omega)]
          · rw [if_neg e2, if_neg (by omega)]
      rw [hrw] at hN2
      replace eq := Lib.hid eq
      replace hil := Lib.hid hil
      replace hrw := Lib.hid hrw
      go_wp2_with fail
      go_roundg (4 - (m + 1))
      case measure => omega
      case rel => exact ⟨m + 1, by omega, rfl, by go_num, hK2, hN2, hB2⟩
    · obtain rfl : m = 4 := by omega
      have hN' : wr.heap[w.heap.size + 2]? = some (.cells (nc fun b => ((xs b).length : Int)) 26 (0, 0)) := by
        rw [← nc_congr (n := fun b => if b < 4 then ((xs b).length : Int) else 0) (m := fun b => ((xs b).length : Int)) (fun b hb => by simp [hb])]
        exact hN
      have hAr := (hK.block w.heap.size (by omega) (by simp)).trans hA.out
      have hLr := (hK.block bl hbl (by simpa using hbln.out)).trans hL.out
      have hpr := hpW.past hK hpb.out
      have hqr : ∀ b, b < 4 → QAt wr (q b) (xs b) := fun b hb => by
        obtain ⟨al, cl, e, hi, ha⟩ := hql.out b hb
        exact ⟨al, cl, e, hi.past hK ha⟩
      have cA := after_any h l a cap q xs (fun b => (xs b).length) wr hpr hqr (fun _ _ => Nat.le_refl _) (fun b hb => by rw [hxs.out b hb]; exact ⟨ofL_len l _, fun i hi => (ofL_mem.1 hi).1⟩) hnear.out hlen
      obtain ⟨N0, hN0⟩ : ∃ N0 : Int → Nat, (fun b => (ofL l b).length) = N0 := ⟨_, rfl⟩
      have hup := Up.start h l
      rw [hN0] at hup
      have hxN : ∀ b : Nat, b < 4 → (xs b).length = N0 (b : Int) := fun b hb => by rw [hxs.out b hb, ← hN0]
      rw [show moves l (fst4 xs (fun b => (xs b).length) 4) h = after l N0 h from by rw [fst4_firsts l xs _ N0 hxs.out hxN]; rfl] at cA
      have hN3 : nc (fun b => ((xs b).length : Int)) = nc fun b => (N0 (b : Int) : Int) := nc_congr fun b hb => by rw [hxN b hb]
      clear hN
      replace cA := Lib.hid cA
      replace hup := Lib.hid hup
      replace hN0 := Lib.hid hN0
      replace hxN := Lib.hid hxN
      replace hN3 := Lib.hid hN3
      replace hpW := Lib.hid hpW
      clear hpr hqr
      go_wp2_with (first | go_skip | (refine ld_row 30 _ rfl rfl _ rfl _ _ _ _ hAr Try.underlying30 rfl info30 ?_) | (refine ld_row 93 _ rfl rfl _ rfl _ _ _ _ hLr Try.underlying93 rfl info93 ?_) | (refine ld_row 26 _ rfl rfl _ rfl _ _ _ _ hN' Try.underlying26 rfl info26 ?_))
      refine cA.out.mono ?_
      rintro e w3 ⟨rfl, hb3⟩
      have hK3 := grown_below (grown_below hK hb3) ((Below.refl w3.heap.size w3).alloc (Nat.le_refl _) (.cells (hc (after l N0 h) (.slice a l.length cap)) 30))
      have hN4 := hold (hkeep hb3 hN') (.cells (hc (after l N0 h) (.slice a l.length cap)) 30)
      rw [hN3.out] at hN4
      have hX4 := hnew w3 (.cells (hc (after l N0 h) (.slice a l.length cap)) 30)
      have hB3 := bstep hB hB.size hb3
      have hB4 := hB3.alloc hB3.size (.cells (hc (after l N0 h) (.slice a l.length cap)) 30)
      have hbx : W.heap.size ≤ w3.heap.size := Nat.le_trans hK.size hb3.size
      clear hN' hAr hLr hb3 hB3
      replace hN4 := Lib.hid hN4
      replace hX4 := Lib.hid hX4
      replace hK3 := Lib.hid hK3
      go_upto_region 11 with (first | go_skip | (refine st_new 30 _ _ rfl _ 30 _ rfl rfl rfl (hc (after l N0 h) (.slice a l.length cap)) rfl info30 rfl (hc_one _ _ rfl) ?_))
      replace hN4 := hN4.out
      replace hX4 := hX4.out
      replace hK3 := hK3.out
      generalize hW : w3.alloc (.cells (hc (after l N0 h) (.slice a l.length cap)) 30) = W4 at *
      generalize hC0 : w3.heap.size = bx at *
      clear hW hC0 hK hB
      replace hbx := Lib.hid hbx
      go_wp2_with fail
      go_loopg [7] (2 * sumN N0 + 1) (fun g s7 wx => ∃ (N : Int → Nat) (b : Bool), g = 2 * sumN N + (if b = true then 1 else 0) ∧ s7 = .bool b ∧ Up h l N ∧ (b = false → ∀ c : Nat, c < 4 → Fine (after l N h) (c : Int) (N (c : Int))) ∧ W.grownBy wx (some (w.heap.size + 2)) ∧ wx.heap[w.heap.size + 2]? = some (.cells (nc fun b => (N (b : Int) : Int)) 26 (0, 0)) ∧ wx.heap[bx]? = some (.cells (hc (after l N h) (.slice a l.length cap)) 30 (0, 0)) ∧ Below w.heap.size w wx)
      case atStart => exact ⟨N0, true, rfl, rfl, hup.out, (fun h => by cases h), hK3, hN4, hX4, hB4⟩
      case round =>
        clear hK3 hN4 hX4 hB4 hup
        obtain ⟨N, b, hgg, rfl, hup, hfi, hK, hN, hX, hB⟩ := hrel
        cases b
        · have hfin : nc (fun b => (N (b : Int) : Int)) = nc (mostN h l) := nc_congr fun b hb => by
            rw [hmn.out b]
            have := hup.is hall.out (fun c c0 c1 => by obtain ⟨j, rfl⟩ := Int.eq_ofNat_of_zero_le c0; exact hfi rfl j (by omega)) (b := (b : Int)) (by omega) (by omega)
            rw [this]
          rw [hfin] at hN
          have hZr := (hK.block (w.heap.size + 1) (by omega) (by simp)).trans hZ.out
          replace hfin := Lib.hid hfin
          replace hX := Lib.hid hX
          clear hfi hup hgg
          go_wp2_with (first | go_skip | (refine ld_row 26 _ rfl rfl _ rfl _ _ _ _ hN Try.underlying26 rfl info26 ?_) | (refine st_row 26 _ _ rfl rfl _ rfl _ rfl _ _ hZr info26 rfl (nc_one _) ?_; intro w5 hr5 hgr5 hsz5))
          exact bodyPost_ret (results_cell_row rfl _ _ _ 26 _ (0, 0) _ rfl hr5 Try.underlying26 rfl info26) rfl ⟨rfl, hB.grown hgr5 hB.size (fun k hk => by cases hk; omega)⟩
        · clear hfi
          obtain ⟨S0, hS0⟩ : ∃ S0, sumN N = S0 := ⟨_, rfl⟩
          rw [hS0] at hgg
          replace hgg := Lib.hid hgg
          replace hS0 := Lib.hid hS0
          replace hup := Lib.hid hup
          obtain ⟨Ni, hNi⟩ : ∃ Ni : Int → Nat, Ni = N := ⟨_, rfl⟩
          rw [← hNi] at hS0 hup hN hX
          clear hNi N
          go_wp2_with fail
          go_loopg [7, 31] 4 (fun g s7 s31 wx => ∃ (m : Nat) (N : Int → Nat) (b : Bool), m ≤ 4 ∧ g = 4 - m ∧ s31 = .int .i64 m ∧ s7 = .bool b ∧ Up h l N ∧ sumN N ≤ S0 ∧ (b = true → sumN N < S0) ∧ (b = false → ∀ c : Nat, c < m → Fine (after l N h) (c : Int) (N (c : Int))) ∧ W.grownBy wx (some (w.heap.size + 2)) ∧ wx.heap[w.heap.size + 2]? = some (.cells (nc fun b => (N (b : Int) : Int)) 26 (0, 0)) ∧ wx.heap[bx]? = some (.cells (hc (after l N h) (.slice a l.length cap)) 30 (0, 0)) ∧ Below w.heap.size w wx)
          case atStart => exact ⟨0, Ni, false, by omega, rfl, rfl, rfl, hup.out, by have := hS0.out; omega, (fun h => by cases h), fun _ c hc => by omega, hK, hN, hX, hB⟩
          case round =>
            clear hK hN hX hB hup hS0
            obtain ⟨m, N, b, hm, rfl, rfl, rfl, hup, hle, hbt, hfi, hK, hN, hX, hB⟩ := hrel
            by_cases h4 : m < 4
            · have h4d : decide ((m : Int) < 4) = true := decide_eq_true (by omega)
              have hm0 : (m : Int) < 4 := by omega
              obtain ⟨Ni, hNi⟩ : ∃ Ni : Int → Nat, Ni = N := ⟨_, rfl⟩
              rw [← hNi] at hup hle hbt hfi hN hX
              replace hup := Lib.hid hup
              replace hfi := Lib.hid hfi
              replace hbt := Lib.hid hbt
              clear hNi N
              go_wp2_with fail
              go_loopg [7] (sumN Ni) (fun g s7 wx => ∃ (N : Int → Nat) (b : Bool), g = sumN N ∧ s7 = .bool b ∧ Up h l N ∧ sumN N ≤ S0 ∧ (b = true → sumN N < S0) ∧ (b = false → ∀ c : Nat, c < m → Fine (after l N h) (c : Int) (N (c : Int))) ∧ W.grownBy wx (some (w.heap.size + 2)) ∧ wx.heap[w.heap.size + 2]? = some (.cells (nc fun b => (N (b : Int) : Int)) 26 (0, 0)) ∧ wx.heap[bx]? = some (.cells (hc (after l N h) (.slice a l.length cap)) 30 (0, 0)) ∧ Below w.heap.size w wx)
              case atStart => exact ⟨Ni, b, rfl, rfl, hup.out, hle, hbt.out, hfi.out, hK, hN, hX, hB⟩
              case round =>
                clear hK hN hX hB hup hle hfi hbt
                obtain ⟨N, b, rfl, rfl, hup, hle, hbt, hfi, hK, hN, hX, hB⟩ := hrel
                have hroom := (near_after (h := h) (l := l) hnear.out hlen N).room (by omega)
                obtain ⟨X, hXe⟩ : ∃ X, after l N h = X := ⟨_, rfl⟩
                rw [hXe] at hX hroom
                have hff : fineB X (m : Int) (N (m : Int) : Int) = true ↔ Fine (after l N h) (m : Int) (N (m : Int)) := by rw [hXe]; exact fine_fineB
                obtain ⟨wo, rfl⟩ : ∃ wo : World, wo = wr := ⟨_, rfl⟩
                have hcx := calm_cells hX
                have hcn := calm_cells hN
                have hnx : ∀ x : Wd (Below wo.heap.size wo), x.w.cell? ⟨w.heap.size + 2, m, none⟩ = some (.int .i64 (N (m : Int) : Int)) := fun x => by rw [hcn x m, nc_get _ m h4]
                clear hcn
                cases hf : fineB X (m : Int) (N (m : Int) : Int)
                · have hnf : ¬ Fine (after l N h) (m : Int) (N (m : Int)) := fun h => by rw [hff.2 h] at hf; cases hf
                  have hne : N (m : Int) ≠ 0 := fun e => hnf (.inl e)
                  obtain ⟨k, hk⟩ : ∃ k, N (m : Int) = k + 1 := ⟨N (m : Int) - 1, by omega⟩
                  have hkl : k < (ofL l (m : Int)).length := by have := hup.le (m : Int) (by omega) (by omega); omega
                  obtain ⟨i, hi⟩ : ∃ i, (ofL l (m : Int))[k]? = some i := ⟨(ofL l (m : Int))[k], List.getElem?_eq_getElem hkl⟩
                  have hless := hc_less hall.out h (.slice a l.length cap) (N := N) (b := (m : Int)) ⟨by omega, by omega⟩ hk hi
                  have hup2 := hup.less hall.out (b := (m : Int)) ⟨by omega, by omega⟩ hnf
                  have hsum := lessN_sum (n := N) (b := (m : Int)) ⟨by omega, by omega⟩ hne
                  have hiL := (ofL_mem.1 (List.mem_of_getElem? hi)).1
                  have hpi := payAt_get hiL
                  obtain ⟨f0, f1, t0, t1, hft, a0, a1⟩ := hall.out i hiL
                  have hkx : k < (xs m).length := by rw [hxs.out m h4]; exact hkl
                  have hik : (xs m)[k]? = some i := by rw [hxs.out m h4]; exact hi
                  have hx24 := hxl.out m h4
                  obtain ⟨p, ep⟩ : ∃ p, payAt l i = p := ⟨_, rfl⟩
                  rw [ep] at hpi f0 f1 t0 t1 hft a0 a1 hless
                  rw [hXe] at hless
                  have rf := hroom.has p.frm f0 f1
                  have rt := hroom.has p.to t0 t1
                  have rs := hroom.sent p.frm p.to f0 f1 t0 t1
                  have hk1 : (N (m : Int) : Int) = (k : Int) + 1 := by omega
                  have hftb : (p.frm == p.to) = false := by simpa using hft
                  have cF : ∀ s w, Calls Try.prog 82 #[.agg (hc X s), .int .i64 m, .int .i64 (N (m : Int) : Int)] w fun e w' => e = .returned (.bool false) ∧ Below w.heap.size w w' := fun s w => by rw [← hf]; exact fine_any X s m _ w h4 hroom
                  obtain ⟨al, cl, eq, hil, hila⟩ := hql.out m h4
                  obtain ⟨bq, oq, rfl, hbq, hcq⟩ := hil.row (by rw [nats_len]; omega)
                  obtain ⟨bp, op, rfl, hbp, _⟩ := hpW.out.row (by omega)
                  have hqk : (nats (xs m))[k]? = some (i : Int) := by simp [nats, hik]
                  have hcle : (xs m).length ≤ cl := by have := hil.le; rw [nats_len] at this; exact this
                  replace cF := Lib.hid cF
                  replace hf := Lib.hid hf
                  replace hff := Lib.hid hff
                  replace hnf := Lib.hid hnf
                  replace hup := Lib.hid hup
                  replace hbt := Lib.hid hbt
                  replace hfi := Lib.hid hfi
                  replace hk := Lib.hid hk
                  replace hk1 := Lib.hid hk1
                  replace hi := Lib.hid hi
                  replace hless := Lib.hid hless
                  replace hup2 := Lib.hid hup2
                  replace hsum := Lib.hid hsum
                  replace hpi := Lib.hid hpi
                  replace ep := Lib.hid ep
                  replace hik := Lib.hid hik
                  replace hqk := Lib.hid hqk
                  replace eq := Lib.hid eq
                  replace hcq := Lib.hid hcq
                  replace hne := Lib.hid hne
                  go_upto_region 17 with fail
                  refine calm_region (Below wo.heap.size wo) (by kernel_rfl) (by kernel_rfl) (calm_start wo) ?_
                  repeat (first | go_big_quiet_skip | (go_big_quiet_want; first | (refine calm_row 30 _ rfl _ rfl _ _ _ _ (calm_heap hX) Try.underlying30 rfl info30 ?_; (try simp only [Act.put]); (try simp only [List.setIfInBounds_toArray]); (try simp only [List.set_cons_succ]); (try simp only [List.set_cons_zero]); go_big_quiet_on) | (go_big_quiet_op; first | go_big_quiet_on | go_big_quiet_call (first | (go_at_call 82; exact calm_call (calm_below _) (cF.out _ _))))))
                  refine wpQuiet_nil ?_
                  intro w8 hI
                  have hK8 := grown_below hK hI
                  have hN8 := hkeep hI hN
                  have hX8 := hkeep hI hX
                  have hB8 := bstep hB hB.size hI
                  have cn8 : w8.cell? ⟨w.heap.size + 2, m, none⟩ = some (.int .i64 ((k : Int) + 1)) := by rw [cells_at hN8, nc_get _ m h4, hk1.out]
                  have fn8 := frozenAt hN8 m
                  have hNa := hsetSame (i := m) hN8 (.int .i64 (k : Int))
                  rw [nc_set _ m _ h4] at hNa
                  have hrw : nc (fun b => if b = m then (k : Int) else (N (b : Int) : Int)) = nc (fun b => (lessN N (m : Int) (b : Int) : Int)) := nc_congr fun b _ => by
                    by_cases e : b = m
                    · subst e; rw [if_pos rfl, lessN_self, hk.out]; simp
                    · rw [if_neg e, lessN_ne N (by omega)]
                  rw [hrw] at hNa
                  have hKa := grown_set (i := m) hK8 (.int .i64 (k : Int))
                  have hbxn : bx ≠ w.heap.size + 2 := by have := hbx.out; omega
                  have hXa := hsetOther (g := w.heap.size + 2) (i := m) hX8 hbxn (.int .i64 (k : Int))
                  have hBa := hB8.setCell (p := ⟨w.heap.size + 2, m, none⟩) (by show w.heap.size ≤ w.heap.size + 2; omega) (.int .i64 (k : Int))
                  clear hcx hnx hK hN hX hB hK8 hX8 hB8 hI
                  replace hN8 := Lib.hid hN8
                  replace hrw := Lib.hid hrw
                  go_upto_region 19 with fail
                  generalize hWa : w8.setCell ⟨w.heap.size + 2, m, none⟩ (.int .i64 (k : Int)) = wa at *
                  clear cn8 fn8 hN8 hWa
                  have c40 : wa.cell? ⟨w.heap.size, 40, none⟩ = some (.slice (some ⟨bp, op, none⟩) l.length cap) := (cells_at ((hKa.block w.heap.size (by omega) (by simp)).trans hA.out) 40).trans (hc_pays _ _)
                  have cl1 : wa.cell? ⟨bl, m, none⟩ = some (.slice (some ⟨bq, oq, none⟩) (xs m).length cl) := by rw [cells_at ((hKa.block bl hbl (by simpa using hbln.out)).trans hL.out), qc_get q m h4, eq.out]
                  have cnk : wa.cell? ⟨w.heap.size + 2, m, none⟩ = some (.int .i64 (k : Int)) := by rw [cells_at hNa, nc_get _ m h4, lessN_self, hk.out]; simp
                  have hila' : bq ≠ w.heap.size + 2 := hila (by rw [nats_len]; omega) bq oq none rfl
                  have cqk : wa.cell? ⟨bq, oq + k, none⟩ = some (.int .i64 i) := (World.cell?_of_block (hKa.block bq hbq (by simpa using hila'))).trans (hcq.out k i hqk.out)
                  obtain ⟨x0, x1, x2, x3, x4, x5⟩ := (hpW.out.past hKa hpb.out).six hpi.out
                  have n0 := World.new_ne wa _ c40
                  have n1 := World.new_ne wa _ cl1
                  have n2 := World.new_ne wa _ cnk
                  have n3 := World.new_ne wa _ cqk
                  have m0 := World.new_ne wa _ x0
                  have m1 := World.new_ne wa _ x1
                  have m2 := World.new_ne wa _ x2
                  have m3 := World.new_ne wa _ x3
                  have m4 := World.new_ne wa _ x4
                  have m5 := World.new_ne wa _ x5
                  have hkl2 : (k : Int) < ((xs m).length : Int) := by omega
                  have hiL2 : (i : Int) < (l.length : Int) := by omega
                  replace hNa := Lib.hid hNa
                  replace hXa := Lib.hid hXa
                  replace hila := Lib.hid hila
                  replace hil := Lib.hid hil
                  go_cut [9] (fun s9 wx => ∃ gx : Nat, s9 = .pointer (some ⟨gx, 0, none⟩) ∧ wa.heap.size ≤ gx ∧ wx.heap[gx]? = some (.cells (pc p) 36 (0, 0)) ∧ Below wa.heap.size wa wx)
                  case first =>
                    go_region_held3 (fun w' => w'.cell? ⟨w.heap.size, 40, none⟩ = some (.slice (some ⟨bp, op, none⟩) l.length cap) ∧ w'.cell? ⟨bl, m, none⟩ = some (.slice (some ⟨bq, oq, none⟩) (xs m).length cl) ∧ w'.cell? ⟨w.heap.size + 2, m, none⟩ = some (.int .i64 (k : Int)) ∧ w'.cell? ⟨bq, oq + k, none⟩ = some (.int .i64 i) ∧ w'.cell? ⟨bp, op + i * 6, none⟩ = some (.int .i64 p.frm) ∧ w'.cell? ⟨bp, op + i * 6 + 1, none⟩ = some (.int .i64 p.to) ∧ w'.cell? ⟨bp, op + i * 6 + 2, none⟩ = some (.int .i64 p.amt) ∧ w'.cell? ⟨bp, op + i * 6 + 3, none⟩ = some (.int .i64 p.cls) ∧ w'.cell? ⟨bp, op + i * 6 + 4, none⟩ = some (.int .i64 p.st) ∧ w'.cell? ⟨bp, op + i * 6 + 5, none⟩ = some (.int .i64 p.seq)) (go_keep) (fail)
                    all_goals
                      go_wp2_with fail
                      go_meet
                      case rel => exact ⟨_, rfl, Nat.le_refl _, hnew wa (.cells (pc p) 36), ((Below.refl _ _).alloc (Nat.le_refl _) _).drew⟩
                  case rest =>
                    obtain ⟨gx, rfl, hgxl, hgx, hbw⟩ := hcut
                    have hKb := grown_below hKa hbw
                    have hNb := hkeep hbw hNa.out
                    have hXb := hkeep hbw hXa.out
                    have hBb := bstep hBa hBa.size hbw
                    have hgb1 : gx ≠ bx := by have := hlt hXa.out; omega
                    have hgb2 : w.heap.size ≤ gx := by have := hBa.size; omega
                    clear x0 x1 x2 x3 x4 x5 c40 cl1 cnk cqk n0 n1 n2 n3 m0 m1 m2 m3 m4 m5 hbw hKa hNa hXa hBa
                    have hX := hXb
                    have hP := hgx
                    have hNm := hNb
                    have hKm := hKb
                    have hBm := hBb
                    clear hXb hgx hNb hKb hBb
                    have hcX1 := cells_at hX
                    have hfX1 := frozenAt hX
                    have hcP1 := cells_at hP
                    have gX := hsetSame (i := p.frm.toNat * 2) hX (.int .i64 (X.has p.frm + p.amt))
                    rw [hc_setHas _ _ _ _ f0 f1] at gX
                    have gP := hsetOther (g := bx) (i := p.frm.toNat * 2) hP hgb1 (.int .i64 (X.has p.frm + p.amt))
                    have gN := hsetOther (g := bx) (i := p.frm.toNat * 2) hNm (Ne.symm hbxn) (.int .i64 (X.has p.frm + p.amt))
                    have gK := grown_set2 (x := bx) (i := p.frm.toNat * 2) hKm hbx.out (.int .i64 (X.has p.frm + p.amt))
                    have gB := hBm.setCell (p := ⟨bx, p.frm.toNat * 2, none⟩) (by have := hbx.out; have := hbn; show w.heap.size ≤ bx; omega) (.int .i64 (X.has p.frm + p.amt))
                    replace hX := Lib.hid hX
                    replace hP := Lib.hid hP
                    replace hNm := Lib.hid hNm
                    replace hKm := Lib.hid hKm
                    replace hBm := Lib.hid hBm
                    replace gX := Lib.hid gX
                    replace gP := Lib.hid gP
                    replace gN := Lib.hid gN
                    replace gK := Lib.hid gK
                    replace gB := Lib.hid gB
                    go_upto_region 20 with fail
                    go_cut [59] (fun _ wx => wx.heap[bx]? = some (.cells (hc (X.setHas p.frm (X.has p.frm + p.amt)) (.slice (some ⟨bp, op, none⟩) l.length cap)) 30 (0, 0)) ∧ wx.heap[gx]? = some (.cells (pc p) 36 (0, 0)) ∧ W.grownBy wx (some (w.heap.size + 2)) ∧ wx.heap[w.heap.size + 2]? = some (.cells (nc fun b => (lessN N (m : Int) (b : Int) : Int)) 26 (0, 0)) ∧ Below w.heap.size w wx)
                    case first =>
                      go_region
                      all_goals
                        go_wp2_with fail
                        go_meet
                        case rel => exact ⟨gX.out, gP.out, ⟨gK.out.os, gK.out.tape, gK.out.output, gK.out.size, gK.out.block⟩, gN.out, gB.out.drew⟩
                    case rest =>
                      clear hcX1 hfX1 hcP1 hX hP hNm hKm hBm gX gP gN gK gB
                      obtain ⟨hX, hP, hKm, hNm, hBm⟩ := hcut
                      obtain ⟨Y1, hY1⟩ : ∃ Y1, X.setHas p.frm (X.has p.frm + p.amt) = Y1 := ⟨_, rfl⟩
                      have y1t : Y1.has p.to = X.has p.to := by rw [← hY1]; exact setHas_ne X p.frm _ p.to hftb
                      have y1s : Y1.sent = X.sent := by rw [← hY1]; rfl
                      rw [hY1] at hX
                      have rt1 : -4611686018427387904 ≤ Y1.has p.to ∧ Y1.has p.to ≤ 4611686018427387904 := by rw [y1t]; exact rt
                      replace hY1 := Lib.hid hY1
                      replace y1t := Lib.hid y1t
                      replace y1s := Lib.hid y1s
                      have hcX2 := cells_at hX
                      have hfX2 := frozenAt hX
                      have hcP2 := cells_at hP
                      have gX := hsetSame (i := p.to.toNat * 2) hX (.int .i64 (Y1.has p.to - p.amt))
                      rw [hc_setHas _ _ _ _ t0 t1] at gX
                      have gP := hsetOther (g := bx) (i := p.to.toNat * 2) hP hgb1 (.int .i64 (Y1.has p.to - p.amt))
                      have gN := hsetOther (g := bx) (i := p.to.toNat * 2) hNm (Ne.symm hbxn) (.int .i64 (Y1.has p.to - p.amt))
                      have gK := grown_set2 (x := bx) (i := p.to.toNat * 2) hKm hbx.out (.int .i64 (Y1.has p.to - p.amt))
                      have gB := hBm.setCell (p := ⟨bx, p.to.toNat * 2, none⟩) (by have := hbx.out; have := hbn; show w.heap.size ≤ bx; omega) (.int .i64 (Y1.has p.to - p.amt))
                      replace hX := Lib.hid hX
                      replace hP := Lib.hid hP
                      replace hNm := Lib.hid hNm
                      replace hKm := Lib.hid hKm
                      replace hBm := Lib.hid hBm
                      replace gX := Lib.hid gX
                      replace gP := Lib.hid gP
                      replace gN := Lib.hid gN
                      replace gK := Lib.hid gK
                      replace gB := Lib.hid gB
                      go_upto_region 21 with fail
                      go_cut [71] (fun _ wx => wx.heap[bx]? = some (.cells (hc (Y1.setHas p.to (Y1.has p.to - p.amt)) (.slice (some ⟨bp, op, none⟩) l.length cap)) 30 (0, 0)) ∧ wx.heap[gx]? = some (.cells (pc p) 36 (0, 0)) ∧ W.grownBy wx (some (w.heap.size + 2)) ∧ wx.heap[w.heap.size + 2]? = some (.cells (nc fun b => (lessN N (m : Int) (b : Int) : Int)) 26 (0, 0)) ∧ Below w.heap.size w wx)
                      case first =>
                        go_region
                        all_goals
                          go_wp2_with fail
                          go_meet
                          case rel => exact ⟨gX.out, gP.out, ⟨gK.out.os, gK.out.tape, gK.out.output, gK.out.size, gK.out.block⟩, gN.out, gB.out.drew⟩
                      case rest =>
                        clear hcX2 hfX2 hcP2 hX hP hNm hKm hBm gX gP gN gK gB
                        obtain ⟨hX, hP, hKm, hNm, hBm⟩ := hcut
                        obtain ⟨Y2, hY2⟩ : ∃ Y2, Y1.setHas p.to (Y1.has p.to - p.amt) = Y2 := ⟨_, rfl⟩
                        have y2s : Y2.sent = X.sent := by rw [← hY2]; exact y1s.out
                        rw [hY2] at hX
                        have rs1 : 0 ≤ Y2.sent p.frm p.to ∧ Y2.sent p.frm p.to ≤ 4611686018427386904 := by rw [y2s]; exact rs
                        replace hY2 := Lib.hid hY2
                        replace y2s := Lib.hid y2s
                        have hcX3 := cells_at hX
                        have hfX3 := frozenAt hX
                        have hcP3 := cells_at hP
                        have gX := hsetSame (i := 8 + p.frm.toNat * 4 + p.to.toNat) hX (.int .i64 (Y2.sent p.frm p.to - p.amt))
                        rw [hc_setSent _ _ _ _ _ f0 f1 t0 t1] at gX
                        have gP := hsetOther (g := bx) (i := 8 + p.frm.toNat * 4 + p.to.toNat) hP hgb1 (.int .i64 (Y2.sent p.frm p.to - p.amt))
                        have gN := hsetOther (g := bx) (i := 8 + p.frm.toNat * 4 + p.to.toNat) hNm (Ne.symm hbxn) (.int .i64 (Y2.sent p.frm p.to - p.amt))
                        have gK := grown_set2 (x := bx) (i := 8 + p.frm.toNat * 4 + p.to.toNat) hKm hbx.out (.int .i64 (Y2.sent p.frm p.to - p.amt))
                        have gB := hBm.setCell (p := ⟨bx, 8 + p.frm.toNat * 4 + p.to.toNat, none⟩) (by have := hbx.out; have := hbn; show w.heap.size ≤ bx; omega) (.int .i64 (Y2.sent p.frm p.to - p.amt))
                        replace hX := Lib.hid hX
                        replace hP := Lib.hid hP
                        replace hNm := Lib.hid hNm
                        replace hKm := Lib.hid hKm
                        replace hBm := Lib.hid hBm
                        replace gX := Lib.hid gX
                        replace gP := Lib.hid gP
                        replace gN := Lib.hid gN
                        replace gK := Lib.hid gK
                        replace gB := Lib.hid gB
                        go_upto_region 22 with fail
                        go_cut [83] (fun _ wx => wx.heap[bx]? = some (.cells (hc (Y2.setSent p.frm p.to (Y2.sent p.frm p.to - p.amt)) (.slice (some ⟨bp, op, none⟩) l.length cap)) 30 (0, 0)) ∧ wx.heap[gx]? = some (.cells (pc p) 36 (0, 0)) ∧ W.grownBy wx (some (w.heap.size + 2)) ∧ wx.heap[w.heap.size + 2]? = some (.cells (nc fun b => (lessN N (m : Int) (b : Int) : Int)) 26 (0, 0)) ∧ Below w.heap.size w wx)
                        case first =>
                          go_region
                          all_goals
                            go_wp2_with fail
                            go_meet
                            case rel => exact ⟨gX.out, gP.out, ⟨gK.out.os, gK.out.tape, gK.out.output, gK.out.size, gK.out.block⟩, gN.out, gB.out.drew⟩
                        case rest =>
                          clear hcX3 hfX3 hcP3 hX hP hNm hKm hBm gX gP gN gK gB
                          obtain ⟨hX, hP, hKm, hNm, hBm⟩ := hcut
                          rw [show Y2.setSent p.frm p.to (Y2.sent p.frm p.to - p.amt) = (((X.setHas p.frm (X.has p.frm + p.amt)).setHas p.to (X.has p.to - p.amt)).setSent p.frm p.to (X.sent p.frm p.to - p.amt)) from by rw [y2s.out, ← hY2.out, y1t.out, ← hY1.out], hless.out] at hX
                          have hs1 := hsum.out
                          have hlt0 : sumN (lessN N (m : Int)) < S0 := by omega
                          replace hX := Lib.hid hX
                          replace hP := Lib.hid hP
                          replace hNm := Lib.hid hNm
                          replace hKm := Lib.hid hKm
                          replace hBm := Lib.hid hBm
                          go_wp2_with fail
                          go_roundg (sumN (lessN N (m : Int)))
                          case measure => omega
                          case rel => exact ⟨lessN N (m : Int), true, rfl, rfl, hup2.out, by omega, fun _ => hlt0, (fun e => by cases e), hKm.out, hNm.out, hX.out, hBm.out⟩
                · have hfm := hff.1 hf
                  have cF : ∀ s w, Calls Try.prog 82 #[.agg (hc X s), .int .i64 m, .int .i64 (N (m : Int) : Int)] w fun e w' => e = .returned (.bool true) ∧ Below w.heap.size w w' := fun s w => by rw [← hf]; exact fine_any X s m _ w h4 hroom
                  replace cF := Lib.hid cF
                  replace hf := Lib.hid hf
                  replace hff := Lib.hid hff
                  replace hfm := Lib.hid hfm
                  replace hup := Lib.hid hup
                  replace hbt := Lib.hid hbt
                  replace hfi := Lib.hid hfi
                  go_upto_region 17 with fail
                  refine calm_region (Below wo.heap.size wo) (by kernel_rfl) (by kernel_rfl) (calm_start wo) ?_
                  repeat (first | go_big_quiet_skip | (go_big_quiet_want; first | (refine calm_row 30 _ rfl _ rfl _ _ _ _ (calm_heap hX) Try.underlying30 rfl info30 ?_; (try simp only [Act.put]); (try simp only [List.setIfInBounds_toArray]); (try simp only [List.set_cons_succ]); (try simp only [List.set_cons_zero]); go_big_quiet_on) | (go_big_quiet_op; first | go_big_quiet_on | go_big_quiet_call (first | (go_at_call 82; exact calm_call (calm_below _) (cF.out _ _))))))
                  refine wpQuiet_nil ?_
                  intro w8 hI
                  have hK8 := grown_below hK hI
                  have hN8 := hkeep hI hN
                  have hX8 := hkeep hI hX
                  have hB8 := bstep hB hB.size hI
                  rw [← hXe] at hX8
                  clear hcx hnx hK hN hX hB
                  replace hXe := Lib.hid hXe
                  go_wp2_with fail
                  go_roundg (4 - (m + 1))
                  case measure => omega
                  case rel =>
                    refine ⟨m + 1, N, b, by omega, rfl, by go_num, rfl, hup.out, hle, hbt.out, fun hb c hc => ?_, hK8, hN8, hX8, hB8⟩
                    by_cases e : c = m
                    · subst e; exact hfm.out
                    · exact hfi.out hb c (by omega)
            · obtain rfl : m = 4 := by omega
              have hbm : 2 * sumN N + (if b = true then 1 else 0) < 2 * S0 + 1 := by
                cases b with
                | true => have := hbt rfl; simp; omega
                | false => simp; omega
              replace hbm := Lib.hid hbm
              replace hup := Lib.hid hup
              replace hfi := Lib.hid hfi
              replace hbt := Lib.hid hbt
              go_wp2_with fail
              go_roundg (2 * sumN N + (if b = true then 1 else 0))
              case measure => have h5 := hgg.out; simp only [if_true] at h5; rw [h5]; exact hbm.out
              case rel => exact ⟨N, b, rfl, rfl, hup.out, hfi.out, hK, hN, hX, hB⟩
end Go.Proofs.Ytggfdkkhlokmlaa
