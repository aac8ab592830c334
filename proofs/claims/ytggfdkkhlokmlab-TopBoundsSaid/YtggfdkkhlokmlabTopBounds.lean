/- TopBounds: the walks. -/
import Derived.Deep.DeepCutAuto
import Derived.Test.YtggfdkkhlokmlabTopSame
import Derived.Test.YtggfdkkhlokmlabCLed
namespace Go.Proofs.Ytggfdkkhlokmlab
open Go.RowKit
attribute [local go_sem] hc_pays hc_next hc_size rc_0 rc_1 rc_2 rc_size dc_0 dc_1 dc_2 dc_3 dc_4 dc_size
set_option maxRecDepth 100000 in
set_option maxHeartbeats 4000000 in
theorem topBounds_look (p fb wb i0 : Nat) (av : Nat → Prop) (B : Bk) (d : Deed) (c n : Int) (v : Value) (w : World) (X : Hs) (s : Value) (hk : BankAt w p av B) (hne : fb ≠ wb) (hr : B.h.Room)
    (hx : 0 < i0 → X.Room ∧ (d.kind ≠ 11 → Better X B.h)) (hF : w.heap[fb]? = some (.cells #[.bool (decide (i0 = 0))] 4 (0, 0))) (hZ0 : w.heap[wb]? = some (.cells (hc X s) 29 (0, 0))) :
    Calls Try.prog 20 #[.pointer (some ⟨p, 0, none⟩), .agg (dc d), .agg (rc c n v), .pointer (some ⟨fb, 0, none⟩), .pointer (some ⟨wb, 0, none⟩)] w fun e w' => e = .returned (.bool true) ∧ Only (fun b => b = fb ∨ b = wb) w w' ∧
      w'.heap[fb]? = some (.cells #[.bool false] 4 (0, 0)) ∧ ∃ s', w'.heap[wb]? = some (.cells (hc B.h s') 29 (0, 0)) := by
  have hbank := fun w hk => bankHouse_any p av B w hk
  obtain ⟨h, l, t, dn, f, m0⟩ := B
  simp only at hbank hr hx ⊢
  replace hbank := Lib.hid hbank
  replace hk := Lib.hid hk
  replace hr := Lib.hid hr
  go_enter Try.func20, Try.ntmps20
  go_upto_region 1 with fail
  generalize hW : World.alloc (World.alloc w _) _ = W0
  have hD : W0.heap[w.heap.size]? = some (.cells (dc d) 40 (0, 0)) := by rw [← hW]; exact heap_alloc2_old w _ _
  have hB0 : Below w.heap.size w W0 := by rw [← hW]; exact ((Below.refl w.heap.size w).alloc (Nat.le_refl _) _).alloc (by simp) _
  clear hW
  have hk0 := hk.out.below hB0
  go_upto_region 2 with (first | go_skip | (go_at_call 21; refine (hbank.out _ hk0).mono ?_; rintro e w1 ⟨⟨u, rfl, hown⟩, hb1⟩; obtain ⟨a1, cap1, rfl, hp1, _⟩ := hown.at_) | (refine st_new 29 _ _ rfl _ 29 _ rfl rfl rfl (hc h (.slice a1 l.length cap1)) rfl info30 rfl (hc_one _ _ rfl) ?_))
  have hX0 := hnew w1 (.cells (hc h (.slice a1 l.length cap1)) 29)
  have hB01 := hb1.alloc hb1.size (.cells (hc h (.slice a1 l.length cap1)) 29)
  have hB1 := bstep hB0 hB0.size hB01
  have hD1 := hkeep hB01 hD
  generalize w1.alloc (.cells (hc h (.slice a1 l.length cap1)) 29) = W at *
  have hcx := hb1.size
  generalize w1.heap.size = cx at *
  clear hown hp1 hb1 hB0 hk0 hB01 hD
  have hF1 := hkeep hB1 hF
  have hZ1 := hkeep hB1 hZ0
  have hfl := hlt hF
  have hzl := hlt hZ0
  have cD := cells_at hD1
  have cF := cells_at hF1
  replace hx := Lib.hid hx
  obtain ⟨T, hT⟩ : ∃ T : Bool, T = (!(decide (i0 = 0)) && (d.kind != 11)) := ⟨_, rfl⟩
  replace hT := Lib.hid hT
  simp only [Act.put]
  go_cut [22] (fun s22 wx => s22 = .bool T ∧ W = wx)
  case first =>
    by_cases hi0 : i0 = 0
    · have q0 : decide (i0 = 0) = true := decide_eq_true hi0
      have hTf : T = false := by rw [hT.out, q0]; rfl
      replace hi0 := Lib.hid hi0
      go_wp2_with fail
      go_meet
      case rel => exact ⟨by rw [hTf], rfl⟩
    have q0 : decide (i0 = 0) = false := decide_eq_false hi0
    by_cases h11 : d.kind = 11
    · have q11 : (d.kind == 11) = true := by rw [beq_iff_eq]; exact h11
      have q11' : (d.kind != 11) = false := by rw [bne, q11]; rfl
      have hTf : T = false := by rw [hT.out, q0, q11']; rfl
      replace hi0 := Lib.hid hi0
      replace h11 := Lib.hid h11
      go_wp2_with fail
      go_meet
      case rel => exact ⟨by rw [hTf], rfl⟩
    · have q11 : (d.kind == 11) = false := by rw [beq_eq_false_iff_ne]; exact h11
      have q11' : (d.kind != 11) = true := by rw [bne, q11]; rfl
      have hTf : T = true := by rw [hT.out, q0, q11']; rfl
      replace hi0 := Lib.hid hi0
      replace h11 := Lib.hid h11
      go_wp2_with fail
      go_meet
      case rel => exact ⟨by rw [hTf], rfl⟩
  case rest =>
  obtain ⟨rfl, rfl⟩ := hcut
  clear cD cF
  go_upto_if 22 with fail
  go_cut [8] (fun s8 wx => Below W.heap.size W wx)
  case first =>
    cases hTT : T with
    | false =>
      replace hTT := Lib.hid hTT
      go_wp2_with fail
      go_meet
      case rel => exact Below.refl _ _
    | true =>
    have hi0 : i0 ≠ 0 := fun e => by have := hT.out; rw [hTT, decide_eq_true e] at this; cases this
    have h11 : d.kind ≠ 11 := fun e => by have := hT.out; rw [hTT, e] at this; simp at this
    replace hTT := Lib.hid hTT
    obtain ⟨hrX, hbt⟩ := hx.out (by omega)
    have hbt := hbt h11
    have hbl := hbt.left
    have hbn := hbt.net
    clear hbt hx
    replace hbl := Lib.hid hbl
    replace hbn := Lib.hid hbn
    replace hrX := Lib.hid hrX
    replace hi0 := Lib.hid hi0
    replace h11 := Lib.hid h11
    go_wp2_with fail
    go_loopg [23] 4 (fun g s23 wr => ∃ m : Nat, m ≤ 4 ∧ g = 4 - m ∧ s23 = .int .i64 m ∧ Below W.heap.size W wr)
    case atStart => exact ⟨0, by omega, rfl, rfl, Below.refl _ _⟩
    case round =>
      obtain ⟨m, hm, rfl, rfl, hbw⟩ := hrel
      by_cases h4 : m < 4
      · have h4d : decide ((m : Int) < 4) = true := decide_eq_true (by omega)
        have hX := hkeep hbw hX0
        go_upto_region 7 with (first | go_skip | (refine ld_row 29 _ rfl rfl _ rfl _ _ _ _ hX Try.underlying29 rfl info30 ?_) | (go_at_call 22; refine (left_any h _ (m : Int) _ (by omega) (by omega) hr.out).mono ?_; rintro e w2 ⟨rfl, hb2⟩))
        have hbw2 := hbw.trans (hb2.mono hbw.size)
        clear hX hb2 hbw
        have hX := hkeep hbw2 hX0
        have hZ := hkeep hbw2 hZ1
        have hcX := calm_cells hX
        have hcZ := calm_cells hZ
        have hlm := hbl.out m (by omega) (by omega)
        obtain ⟨wo, rfl⟩ : ∃ wo : World, wo = w2 := ⟨_, rfl⟩
        have cX : ∀ x : Wd (Below wo.heap.size wo), x.w.cell? ⟨cx, m * 2 + 1, none⟩ = some (.int .i64 (h.cr m)) := fun x => (hcX x _).trans (hc_crN h _ m h4)
        have cZ : ∀ x : Wd (Below wo.heap.size wo), x.w.cell? ⟨wb, m * 2 + 1, none⟩ = some (.int .i64 (X.cr m)) := fun x => (hcZ x _).trans (hc_crN X _ m h4)
        clear hcX hcZ
        replace hlm := Lib.hid hlm
        go_cut [50] (fun s50 wx => s50 = .bool false ∧ Below wo.heap.size wo wx)
        case first =>
          by_cases e1 : h.has m + h.cr m < 0
          · have d1 : decide (h.has (m : Int) + h.cr (m : Int) < 0) = true := decide_eq_true e1
            by_cases e2 : h.cr m = X.cr m
            · have d2 : (h.cr (m : Int) == X.cr (m : Int)) = true := by rw [beq_iff_eq]; exact e2
              have h3 := (hlm.out e2).resolve_left (by omega)
              have d3 : decide (h.has (m : Int) + h.cr (m : Int) < X.has (m : Int) + X.cr (m : Int)) = false := decide_eq_false (by omega)
              replace e1 := Lib.hid e1
              replace e2 := Lib.hid e2
              replace h3 := Lib.hid h3
              refine calm_region (Below wo.heap.size wo) (by kernel_rfl) (by kernel_rfl) (calm_start wo) ?_
              repeat (first | go_big_quiet_skip | (go_big_quiet_want; first | (refine calm_row 29 _ rfl _ rfl _ _ _ _ (calm_heap hZ) Try.underlying29 rfl info30 ?_; (try simp only [Act.put]); (try simp only [List.setIfInBounds_toArray]); (try simp only [List.set_cons_succ]); (try simp only [List.set_cons_zero]); go_big_quiet_on) | (go_big_quiet_op; first | go_big_quiet_on | go_big_quiet_call (first | (go_at_call 22; exact calm_call (calm_below _) (left_any X _ (m : Int) _ (by omega) (by omega) hrX.out))))))
              refine wpQuiet_nil ?_
              intro w8 hI
              go_wp2_with fail
              go_meet
              case rel => exact ⟨rfl, hI⟩
            · have d2 : (h.cr (m : Int) == X.cr (m : Int)) = false := by rw [beq_eq_false_iff_ne]; exact e2
              replace e1 := Lib.hid e1
              replace e2 := Lib.hid e2
              refine calm_region (Below wo.heap.size wo) (by kernel_rfl) (by kernel_rfl) (calm_start wo) ?_
              repeat (first | go_big_quiet_skip | (go_big_quiet_want; first | (refine calm_row 29 _ rfl _ rfl _ _ _ _ (calm_heap hZ) Try.underlying29 rfl info30 ?_; (try simp only [Act.put]); (try simp only [List.setIfInBounds_toArray]); (try simp only [List.set_cons_succ]); (try simp only [List.set_cons_zero]); go_big_quiet_on) | (go_big_quiet_op; first | go_big_quiet_on | go_big_quiet_call (first | (go_at_call 22; exact calm_call (calm_below _) (left_any X _ (m : Int) _ (by omega) (by omega) hrX.out))))))
              refine wpQuiet_nil ?_
              intro w8 hI
              go_wp2_with fail
              go_meet
              case rel => exact ⟨rfl, hI⟩
          · have d1 : decide (h.has (m : Int) + h.cr (m : Int) < 0) = false := decide_eq_false e1
            replace e1 := Lib.hid e1
            refine calm_region (Below wo.heap.size wo) (by kernel_rfl) (by kernel_rfl) (calm_start wo) ?_
            repeat (first | go_big_quiet_skip | (go_big_quiet_want; first | (refine calm_row 29 _ rfl _ rfl _ _ _ _ (calm_heap hZ) Try.underlying29 rfl info30 ?_; (try simp only [Act.put]); (try simp only [List.setIfInBounds_toArray]); (try simp only [List.set_cons_succ]); (try simp only [List.set_cons_zero]); go_big_quiet_on) | (go_big_quiet_op; first | go_big_quiet_on | go_big_quiet_call (first | (go_at_call 22; exact calm_call (calm_below _) (left_any X _ (m : Int) _ (by omega) (by omega) hrX.out))))))
            refine wpQuiet_nil ?_
            intro w8 hI
            go_wp2_with fail
            go_meet
            case rel => exact ⟨rfl, hI⟩
        case rest =>
          obtain ⟨rfl, hI⟩ := hcut
          have hbw3 := hbw2.trans (hI.mono hbw2.size)
          clear cX cZ hX hZ hI hbw2
          go_wp2_with fail
          go_loopg [51] 4 (fun g s51 wx => ∃ t : Nat, t ≤ 4 ∧ g = 4 - t ∧ s51 = .int .i64 t ∧ Below W.heap.size W wx)
          case atStart => exact ⟨0, by omega, rfl, rfl, hbw3⟩
          case round =>
            clear hbw3
            obtain ⟨t, ht, rfl, rfl, hbw⟩ := hrel
            by_cases h5 : t < 4
            · have h5d : decide ((t : Int) < 4) = true := decide_eq_true (by omega)
              have hXt := hkeep hbw hX0
              go_upto_region 13 with (first | go_skip | (refine ld_row 29 _ rfl rfl _ rfl _ _ _ _ hXt Try.underlying29 rfl info30 ?_) | (go_at_call 23; refine (net_any h _ (m : Int) (t : Int) _ (by omega) (by omega) (by omega) (by omega) hr.out).mono ?_; rintro e w3 ⟨rfl, hb3⟩))
              have hbw2 := hbw.trans (hb3.mono hbw.size)
              clear hXt hb3 hbw
              have hXt := hkeep hbw2 hX0
              have hZt := hkeep hbw2 hZ1
              have cXl : w3.cell? ⟨cx, 24 + m * 4 + t, none⟩ = some (.int .i64 (h.lim m t)) := (cells_at hXt _).trans (hc_limN h _ m t h4 h5)
              have hnn := hbn.out m t (by omega) (by omega) (by omega) (by omega)
              have ht0 : (t : Int) < 4 := by omega
              have hm0 : (m : Int) < 4 := by omega
              by_cases e1 : 0 ≤ h.lim m t
              · have d1 : decide (h.lim (m : Int) (t : Int) ≥ 0) = true := decide_eq_true e1
                have d1' : decide (0 ≤ h.lim (m : Int) (t : Int)) = true := decide_eq_true e1
                by_cases e2 : h.lim m t < h.sent m t - h.sent t m
                · have d2 : decide (h.lim (m : Int) (t : Int) < h.sent (m : Int) (t : Int) - h.sent (t : Int) (m : Int)) = true := decide_eq_true e2
                  have h3 := (hnn e1).resolve_left (by omega)
                  have d3 : decide (X.sent (m : Int) (t : Int) - X.sent (t : Int) (m : Int) < h.sent (m : Int) (t : Int) - h.sent (t : Int) (m : Int)) = false := decide_eq_false (by omega)
                  replace e1 := Lib.hid e1
                  replace e2 := Lib.hid e2
                  replace h3 := Lib.hid h3
                  replace hnn := Lib.hid hnn
                  go_wp2_with (first | go_skip | (refine ld_row 29 _ rfl rfl _ rfl _ _ _ _ hZt Try.underlying29 rfl info30 ?_) | (go_at_call 23; refine (net_any X _ (m : Int) (t : Int) _ (by omega) (by omega) (by omega) (by omega) hrX.out).mono ?_; rintro e w4 ⟨rfl, hb4⟩))
                  have hbw4 := hbw2.trans (hb4.mono hbw2.size)
                  go_roundg (4 - (t + 1))
                  case measure => omega
                  case rel => exact ⟨t + 1, by omega, rfl, by go_num, hbw4⟩
                · have d2 : decide (h.lim (m : Int) (t : Int) < h.sent (m : Int) (t : Int) - h.sent (t : Int) (m : Int)) = false := decide_eq_false e2
                  replace e1 := Lib.hid e1
                  replace e2 := Lib.hid e2
                  replace hnn := Lib.hid hnn
                  go_wp2_with fail
                  go_roundg (4 - (t + 1))
                  case measure => omega
                  case rel => exact ⟨t + 1, by omega, rfl, by go_num, hbw2⟩
              · have d1 : decide (h.lim (m : Int) (t : Int) ≥ 0) = false := decide_eq_false e1
                have d1' : decide (0 ≤ h.lim (m : Int) (t : Int)) = false := decide_eq_false e1
                replace e1 := Lib.hid e1
                replace hnn := Lib.hid hnn
                go_wp2_with fail
                go_roundg (4 - (t + 1))
                case measure => omega
                case rel => exact ⟨t + 1, by omega, rfl, by go_num, hbw2⟩
            · obtain rfl : t = 4 := by omega
              go_wp2_with fail
              go_roundg (4 - (m + 1))
              case measure => omega
              case rel => exact ⟨m + 1, by omega, rfl, by go_num, hbw⟩
      · obtain rfl : m = 4 := by omega
        go_wp2_with fail
        go_meet
        case rel => exact hbw
  case rest =>
    have hbw := hcut
    have hX := hkeep hbw hX0
    have hZ := hkeep hbw hZ1
    have hFw := hkeep hbw hF1
    have hB9 := hB1.trans (hbw.mono hB1.size)
    clear hx hbank
    go_wp2_with (first | go_skip | (refine ld_row 29 _ rfl rfl _ rfl _ _ _ _ hX Try.underlying29 rfl info30 ?_) | (refine st_row 29 _ _ rfl rfl _ rfl _ rfl _ _ hZ info30 rfl (hc_one _ _ rfl) ?_; intro w5 hr5 hgr5 hsz5; have hF5 := (hgr5.block fb (hlt hFw) (by simp; omega)).trans hFw; have fF5 := frozenAt hF5; have cF5 := cells_at hF5; have hset5 := Lib.hid (hsetSame (i := 0) hF5 (.bool false)); have hoth5 := Lib.hid (hsetOther (g := fb) (i := 0) hr5 (fun e => hne e.symm) (.bool false))))
    go_ret
    refine ⟨rfl, ((only_new hB9).trans ((only_grown hgr5).mono fun b _ e => by cases e; exact .inr rfl)).trans ((only_set fb 0 _ _).mono fun b _ e => .inl e), hset5.out, .slice a1 l.length cap1, hoth5.out⟩
  /-- was is the house of the bank behind i acts, but for i = 0; first: i = 0. -/
  def BoundJ (fb wb : Nat) (l : List Deed) (i : Nat) (av : Nat → Prop) (w : World) : Prop := (av fb ∧ av wb ∧ fb ≠ wb) ∧ w.heap[fb]? = some (.cells #[.bool (decide (i = 0))] 4 (0, 0)) ∧ ∃ X s, (0 < i → X = (Bs l i).h) ∧ w.heap[wb]? = some (.cells (hc X s) 29 (0, 0))
  theorem bs_room (l : List Deed) (i : Nat) : (Bs l i).h.Room := ((bs_good l i).inv.good (bs_good l i).low).room
  theorem topBounds_looks (base fb wb : Nat) (l : List Deed) : Looks 20 #[.pointer (some ⟨fb, 0, none⟩), .pointer (some ⟨wb, 0, none⟩)] base (BoundJ fb wb l) l where
    enter := fun args w => by kernel_rfl
    keep := fun i av av' w w' hJ hb ha _ => ⟨⟨ha _ hJ.1.1, ha _ hJ.1.2.1, hJ.1.2.2⟩, (hb fb (.inr hJ.1.1)).trans hJ.2.1, let ⟨X, s, h2, h3⟩ := hJ.2.2; ⟨X, s, h2, (hb wb (.inr hJ.1.2.1)).trans h3⟩⟩
    look := fun i d p av v w1 _ hpk hJ hk _ _ _ _ _ => by
      obtain ⟨⟨h1, h2, h3⟩, h4, X, s, h6, h7⟩ := hJ
      have hb := fun hk11 => do_better (Bs l i) d hk11
      rw [do_pair hpk] at hb
      refine (topBounds_look p fb wb i av (Bs l (i + 1)) d _ _ v w1 X s hk h3 (bs_room l _) (fun hi => by rw [h6 hi]; exact ⟨bs_room l i, hb⟩) h4 h7).mono fun e w2 ⟨e1, e2, e3, s', e5⟩ => ⟨e1, e2.mono fun b _ e => e.elim (fun x => x ▸ h1) fun x => x ▸ h2, ⟨.inl h1, .inl h2, h3⟩, ?_, _, s', fun _ => rfl, e5⟩
      rw [e3]; rfl
  set_option maxRecDepth 100000 in
  theorem topBounds_any (l : List Deed) (a : Option Addr) (cap : Nat) (w : World) (hl : ActsAt w a cap l) :
      Calls Try.prog 5 #[.slice a l.length cap] w fun e w' => e = .returned (.bool true) ∧ Below w.heap.size w w' := by
    have hlb := lt_of_acts hl
    replace hl := Lib.hid hl
    go_enter Try.func5, Try.ntmps5
    go_upto_region 3 with fail
    generalize hW : World.alloc (World.alloc w _) _ = W0
    have hF : W0.heap[w.heap.size + 1]? = some (.cells #[.bool true] 4 (0, 0)) := by rw [← hW]; exact heap_alloc2_new w _ _
    have hZ : W0.heap[w.heap.size]? = some (.cells (hc Hs.zero (.slice none 0 0)) 29 (0, 0)) := by rw [← hW]; exact heap_alloc2_old w _ _
    have hB0 : Below w.heap.size w W0 := by rw [← hW]; exact ((Below.refl _ _).alloc (Nat.le_refl _) _).alloc (by simp) _
    have cP := play_any 20 #[.pointer (some ⟨w.heap.size + 1, 0, none⟩), .pointer (some ⟨w.heap.size, 0, none⟩)] w.heap.size (BoundJ (w.heap.size + 1) w.heap.size l) l a cap W0 (hl.out.below hB0) hlb hB0.size (topBounds_looks _ _ _ l) ⟨⟨⟨by omega, hlt hF⟩, ⟨Nat.le_refl _, hlt hZ⟩, by omega⟩, hF, _, _, fun h => by omega, hZ⟩
    clear hW hlb
    replace cP := Lib.hid cP
    go_wp2_with (first | go_skip | (go_at_call 19; refine cP.out.mono ?_; rintro e w1 ⟨⟨p, av, rfl, _⟩, hb1⟩))
    go_ret
    exact ⟨rfl, hB0.trans hb1⟩
  end Go.Proofs.Ytggfdkkhlokmlab

