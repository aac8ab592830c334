/- knot.fine and knot.queues. -/
import Derived.Test.YtggfdkkhlokmlaaSweeps
namespace Go.Proofs.Ytggfdkkhlokmlaa
open Go.RowKit
attribute [local go_sem] hc_has hc_cr hc_sent hc_lim hc_pays hc_next hc_size pc_0 pc_1 pc_2 pc_3 pc_4 pc_5
attribute [local go_sem low] hc_hasN hc_crN hc_sentN hc_limN
open Classical in
noncomputable def fineB (x : Hs) (b n : Int) : Bool := decide (n = 0 ∨ Stands x b)
theorem fineB_yes {x : Hs} {b n : Int} (h : n = 0 ∨ Stands x b) : fineB x b n = true := by simp [fineB, h]
theorem fineB_no {x : Hs} {b n : Int} (h : ¬ (n = 0 ∨ Stands x b)) : fineB x b n = false := by simp [fineB, h]
theorem fineB_true {x : Hs} {b n : Int} (h : fineB x b n = true) : n = 0 ∨ Stands x b := by simpa [fineB] using h
theorem fineB_false {x : Hs} {b n : Int} (h : fineB x b n = false) : ¬ (n = 0 ∨ Stands x b) := by simpa [fineB] using h
set_option maxRecDepth 100000 in
set_option maxHeartbeats 2000000 in
theorem fine_any (x : Hs) (s : Value) (b : Nat) (n : Int) (w : World) (hb4 : b < 4) (hr : x.Room) :
    Calls Try.prog 82 #[.agg (hc x s), .int .i64 b, .int .i64 n] w fun e w' => e = .returned (.bool (fineB x b n)) ∧ Below w.heap.size w w' := by
  have hg := hnew w (.cells (hc x s) 30)
  have hB0 := (Below.refl w.heap.size w).alloc (Nat.le_refl _) (.cells (hc x s) 30)
  by_cases hn : n = 0
  · have fin : fineB x b n = true := fineB_yes (.inl hn)
    subst hn
    replace fin := Lib.hid fin
    go_enter Try.func82, Try.ntmps82
    go_wp2
    go_ret
    exact ⟨by rw [fin.out]; rfl, hB0⟩
  · have hnd : (n == 0) = false := by simpa using hn
    have hb0 : (0 : Int) ≤ (b : Int) := by omega
    have hb1 : (b : Int) < 4 := by omega
    go_enter Try.func82, Try.ntmps82
    go_wp2_with fail
    go_loopg [11] 4 (fun g s11 wr => ∃ m : Nat, m ≤ 4 ∧ g = 4 - m ∧ s11 = .int .i64 m ∧ (∀ t : Nat, t < m → 0 ≤ x.lim b t → x.sent b t - x.sent t b ≤ x.lim b t) ∧ wr.heap[w.heap.size]? = some (.cells (hc x s) 30 (0, 0)) ∧ Below w.heap.size w wr)
    case atStart => exact ⟨0, by omega, rfl, rfl, fun t ht => by omega, hg, hB0⟩
    case round =>
      clear hg hB0
      obtain ⟨m, hm, rfl, rfl, hok, hg, hB⟩ := hrel
      have hcl := cells_at hg
      have hsz := hB.size
      replace hok := Lib.hid hok
      by_cases h4 : m < 4
      · have h4d : decide ((m : Int) < 4) = true := decide_eq_true (by omega)
        have cN := net_any x s b m
        by_cases hl : 0 ≤ x.lim b m
        · have hld : decide (x.lim b m ≥ 0) = true := decide_eq_true hl
          have hld2 : decide (0 ≤ x.lim b m) = true := decide_eq_true hl
          by_cases ho : x.sent b m - x.sent m b ≤ x.lim b m
          · have hod : decide (x.lim b m < x.sent b m - x.sent m b) = false := decide_eq_false (by omega)
            replace cN := Lib.hid cN
            go_wp2_with (first | go_skip | (refine ld_row 30 _ rfl rfl _ rfl _ _ _ _ hg Try.underlying30 rfl info30 ?_) | (go_at_call 25; refine (cN.out _ (by omega) (by omega) (by omega) (by omega) hr).mono ?_; rintro e w1 ⟨rfl, hb1⟩))
            go_roundg (4 - (m + 1))
            case measure => omega
            case rel =>
              refine ⟨m + 1, by omega, rfl, by go_num, fun t ht hlt => ?_, hkeep hb1 hg, bstep hB hsz hb1⟩
              by_cases e : t = m
              · rw [e]; exact ho
              · exact hok.out t (by omega) hlt
          · have hod : decide (x.lim b m < x.sent b m - x.sent m b) = true := decide_eq_true (by omega)
            have fin : fineB x b n = false := fineB_no (fun h => h.elim hn fun h => ho (h.lim m (by omega) (by omega) hl))
            replace fin := Lib.hid fin
            replace cN := Lib.hid cN
            go_wp2_with (first | go_skip | (refine ld_row 30 _ rfl rfl _ rfl _ _ _ _ hg Try.underlying30 rfl info30 ?_) | (go_at_call 25; refine (cN.out _ (by omega) (by omega) (by omega) (by omega) hr).mono ?_; rintro e w1 ⟨rfl, hb1⟩))
            go_ret
            exact ⟨by rw [fin.out]; rfl, bstep hB hsz hb1⟩
        · have hld : decide (x.lim b m ≥ 0) = false := decide_eq_false hl
          have hld2 : decide (0 ≤ x.lim b m) = false := decide_eq_false hl
          replace cN := Lib.hid cN
          go_wp2_with fail
          go_roundg (4 - (m + 1))
          case measure => omega
          case rel =>
            refine ⟨m + 1, by omega, rfl, by go_num, fun t ht hlt => ?_, hg, hB⟩
            by_cases e : t = m
            · rw [e] at hlt; omega
            · exact hok.out t (by omega) hlt
      · obtain rfl : m = 4 := by omega
        have fin : fineB x b n = decide (0 ≤ x.has b + x.cr b) := by
          by_cases h0 : 0 ≤ x.has b + x.cr b
          · rw [decide_eq_true h0]
            exact fineB_yes (.inr ⟨h0, fun t t0 t1 hl => by obtain ⟨j, rfl⟩ := Int.eq_ofNat_of_zero_le t0; exact hok.out j (by omega) hl⟩)
          · rw [decide_eq_false h0]
            exact fineB_no (fun h => h.elim hn fun h => h0 h.left)
        replace fin := Lib.hid fin
        go_wp2_with (first | go_skip | (refine ld_row 30 _ rfl rfl _ rfl _ _ _ _ hg Try.underlying30 rfl info30 ?_) | (go_at_call 24; refine (left_any x s b _ (by omega) (by omega) hr).mono ?_; rintro e w1 ⟨rfl, hb1⟩))
        go_ret
        exact ⟨by rw [fin.out]; rfl, bstep hB hsz hb1⟩
/-- Four lists. -/
def qc (q : Nat → Value) : Array Value := #[q 0, q 1, q 2, q 3]
theorem qc_get (q : Nat → Value) (m : Nat) (h : m < 4) : (qc q)[m]? = some (q m) := by
  match m, h with
  | 0, _ => rfl
  | 1, _ => rfl
  | 2, _ => rfl
  | 3, _ => rfl
theorem qc_set (q : Nat → Value) (m : Nat) (v : Value) (h : m < 4) : (qc q).setIfInBounds m v = qc (fun b => if b = m then v else q b) := by
  match m, h with
  | 0, _ => rfl
  | 1, _ => rfl
  | 2, _ => rfl
  | 3, _ => rfl
theorem info93 : (Try.prog.info? 93).map (·.size) = some 4 := by kernel_rfl
theorem qc_size (q : Nat → Value) : (qc q).size = 4 := rfl
theorem qc_one {q : Nat → Value} (h : ∀ b, b < 4 → (q b).oneCell' = true) : (qc q).all (·.oneCell') = true := by
  simp [qc, h 0 (by omega), h 1 (by omega), h 2 (by omega), h 3 (by omega)]
theorem OwnInts.setC {w : World} {base : Nat} {v : Value} {l : List Int} (h : OwnInts w base v l) {g i : Nat} (u : Value) (hg : g < base) : OwnInts (w.setCell ⟨g, i, none⟩ u) base v l := by
  obtain ⟨⟨hlen, hv⟩, hroom⟩ := h
  refine ⟨⟨hlen, ?_⟩, hroom⟩
  rcases hv with h0 | ⟨g', cap, cur, rfl, hb', hg', hrest⟩
  · exact .inl h0
  · exact .inr ⟨g', cap, cur, rfl, hb', hsetOther hg' (by omega) u, hrest⟩
/-- The queues of all four banks. -/
def QsPost (l : List Pay) (w : World) (e : Ending) (w' : World) : Prop := (∃ (q : Nat → Value) (xs : Nat → List Nat), e = .returned (.agg (qc q)) ∧ ∀ b : Nat, b < 4 → IsQueue l (b : Int) (xs b) ∧ OwnInts w' w.heap.size (q b) (nats (xs b))) ∧ Below w.heap.size w w'
attribute [local go_sem] qc_size
set_option maxRecDepth 100000 in
set_option maxHeartbeats 2000000 in
theorem queues_any (h : Hs) (l : List Pay) (a : Option Addr) (cap : Nat) (w : World) (hp : PaysAt w a cap l) :
    Calls Try.prog 80 #[.agg (hc h (.slice a l.length cap))] w (QsPost l w) := by
  replace hp := Lib.hid hp
  go_enter Try.func80, Try.ntmps80
  go_upto_region 2 with fail
  generalize hW : World.alloc (World.alloc (World.alloc w _) _) _ = W0
  have hgA : W0.heap[w.heap.size]? = some (.cells (hc h (.slice a l.length cap)) 30 (0, 0)) := by rw [← hW]; exact hold (heap_alloc2_old w _ _) _
  have hgZ : W0.heap[w.heap.size + 1]? = some (.cells (qc fun _ => .slice none 0 0) 93 (0, 0)) := by rw [← hW]; exact hold (heap_alloc2_new w _ _) _
  have hgL : W0.heap[w.heap.size + 2]? = some (.cells (qc fun _ => .slice none 0 0) 93 (0, 0)) := by
    rw [← hW]
    have := hnew (World.alloc (World.alloc w (.cells (hc h (.slice a l.length cap)) 30)) (.cells (qc fun _ => .slice none 0 0) 93)) (.cells (qc fun _ => .slice none 0 0) 93)
    rw [alloc_sz, alloc_sz] at this
    exact this
  have hB : Below w.heap.size w W0 := by rw [← hW]; exact (((Below.refl w.heap.size w).alloc (Nat.le_refl _) _).alloc (by simp) _).alloc (by simp; omega) _
  clear hW
  go_wp2_with fail
  go_loopg [5] 4 (fun g s5 wr => ∃ (m : Nat) (q : Nat → Value) (xs : Nat → List Nat), m ≤ 4 ∧ g = 4 - m ∧ s5 = .int .i64 m ∧ (∀ b, b < 4 → m ≤ b → q b = .slice none 0 0) ∧ (∀ b : Nat, b < m → IsQueue l (b : Int) (xs b) ∧ OwnInts wr (w.heap.size + 3) (q b) (nats (xs b))) ∧ wr.heap[w.heap.size]? = some (.cells (hc h (.slice a l.length cap)) 30 (0, 0)) ∧ wr.heap[w.heap.size + 1]? = some (.cells (qc fun _ => .slice none 0 0) 93 (0, 0)) ∧ wr.heap[w.heap.size + 2]? = some (.cells (qc q) 93 (0, 0)) ∧ Below w.heap.size w wr)
  case atStart => exact ⟨0, fun _ => .slice none 0 0, fun _ => [], by omega, rfl, rfl, fun _ _ _ => rfl, fun b hb => by omega, hgA, hgZ, hgL, hB⟩
  case round =>
    clear hgA hgZ hgL hB
    obtain ⟨m, q, xs, hm, rfl, rfl, hnil, hown, hgA, hgZ, hgL, hB⟩ := hrel
    have hsz := hB.size
    replace hnil := Lib.hid hnil
    replace hown := Lib.hid hown
    by_cases h4 : m < 4
    · have h4d : decide ((m : Int) < 4) = true := decide_eq_true (by omega)
      have hm0 : (m : Int) < 4 := by omega
      have hpx := hp.out.below hB
      go_wp2_with (first | go_skip | (refine ld_row 30 _ rfl rfl _ rfl _ _ _ _ hgA Try.underlying30 rfl info30 ?_) | (go_at_call 46; refine (of_any h l a cap (m : Int) _ hpx).mono ?_; rintro e w1 ⟨⟨v, ys, rfl, hq1, hxo⟩, hb1⟩; obtain ⟨av, cv, rfl, _, _⟩ := hxo.at_; have hcL := (cells_at (hkeep hb1 hgL) m).trans (qc_get q m h4); have hfL := frozenAt (hkeep hb1 hgL)))
      have hA1 := hkeep hb1 hgA
      have hZ1 := hkeep hb1 hgZ
      have hL1 := hkeep hb1 hgL
      have hz := hlt hgL
      have hA2 := hsetOther hA1 (g := w.heap.size + 2) (i := m) (by omega) (.slice av (nats ys).length cv)
      have hZ2 := hsetOther hZ1 (g := w.heap.size + 2) (i := m) (by omega) (.slice av (nats ys).length cv)
      have hL2 := hsetSame (i := m) hL1 (.slice av (nats ys).length cv)
      rw [qc_set q m _ h4] at hL2
      have hB1 := hB.trans (hb1.mono hsz)
      have hB2 := hB1.setCell (p := ⟨w.heap.size + 2, m, none⟩) (by show w.heap.size ≤ w.heap.size + 2; omega) (.slice av (nats ys).length cv)
      go_roundg (4 - (m + 1))
      case measure => omega
      case rel =>
        refine ⟨m + 1, fun b => if b = m then .slice av (nats ys).length cv else q b, fun b => if b = m then ys else xs b, by omega, rfl, by go_num, fun b hb hmb => ?_, fun b hb => ?_, hA2, hZ2, hL2, hB2⟩
        · dsimp only
          rw [if_neg (by omega)]; exact hnil.out b hb (by omega)
        · by_cases e : b = m
          · subst e
            simp only [if_true]
            exact ⟨hq1, (hxo.mono (by omega)).setC _ (by omega)⟩
          · dsimp only
            rw [if_neg e, if_neg e]
            obtain ⟨h1, h2⟩ := hown.out b (by omega)
            exact ⟨h1, (h2.below hb1).setC _ (by omega)⟩
    · obtain rfl : m = 4 := by omega
      have hone : (qc q).all (·.oneCell') = true := qc_one fun b hb => (hown.out b hb).2.one
      go_wp2_with (first | go_skip | (refine ld_row 93 _ rfl rfl _ rfl _ _ _ _ hgL Try.underlying93 rfl info93 ?_) | (refine st_row 93 _ _ rfl rfl _ rfl _ rfl _ _ hgZ info93 rfl hone ?_; intro w5 hr5 hgr5 hsz5))
      refine bodyPost_ret (results_cell_row rfl _ _ _ 93 _ (0, 0) _ rfl hr5 Try.underlying93 rfl info93) rfl ⟨⟨q, xs, rfl, fun b hb => ?_⟩, ?_⟩
      · obtain ⟨h1, h2⟩ := hown.out b hb
        exact ⟨h1, (h2.grownP hgr5 (by omega)).mono (by omega)⟩
      · exact hB.grown hgr5 hsz fun k hk => by cases hk; omega
end Go.Proofs.Ytggfdkkhlokmlaa
