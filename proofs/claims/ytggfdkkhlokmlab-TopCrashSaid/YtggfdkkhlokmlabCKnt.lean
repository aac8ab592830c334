/- knot.fine and knot.queues. -/
import Derived.Deep.Cut
import Derived.BigQuiet
import Derived.Deep.RegionHeld3
import Derived.Test.YtggfdkkhlokmlabCSwp
import Derived.Test.YtggfdkkhlokmlabCPln
namespace Go.Proofs.Ytggfdkkhlokmlab
open Go.RowKit
attribute [local go_sem] hc_has hc_cr hc_sent hc_lim hc_pays hc_next hc_size pc_0 pc_1 pc_2 pc_3 pc_4 pc_5
attribute [local go_sem low] hc_hasN hc_crN hc_sentN hc_limN
open Classical in
noncomputable def fineB (x : Hs) (b n : Int) : Bool := decide (n = 0 ∨ Stands x b)
theorem fineB_yes {x : Hs} {b n : Int} (h : n = 0 ∨ Stands x b) : fineB x b n = true := by simp [fineB, h]
theorem fineB_no {x : Hs} {b n : Int} (h : ¬ (n = 0 ∨ Stands x b)) : fineB x b n = false := by simp [fineB, h]
theorem fineB_true {x : Hs} {b n : Int} (h : fineB x b n = true) : n = 0 ∨ Stands x b := by simpa [fineB] using h
set_option maxRecDepth 100000 in
set_option maxHeartbeats 2000000 in
theorem fine_any (x : Hs) (s : Value) (b : Nat) (n : Int) (w : World) (hb4 : b < 4) (hr : x.Room) :
  Calls Try.prog 49 #[.agg (hc x s), .int .i64 b, .int .i64 n] w fun e w' => e = .returned (.bool (fineB x b n)) ∧ Below w.heap.size w w' := by
 have hg := hnew w (.cells (hc x s) 29)
 have hB0 := (Below.refl w.heap.size w).alloc (Nat.le_refl _) (.cells (hc x s) 29)
 by_cases hn : n = 0
 ·have fin : fineB x b n = true := fineB_yes (.inl hn)
  subst hn
  replace fin := Lib.hid fin
  go_enter Try.func49, Try.ntmps49
  go_wp2
  go_ret
  exact ⟨by rw [fin.out]; rfl, hB0⟩
 ·have hnd : (n == 0) = false := by simpa using hn
  have hb0 : (0 : Int) ≤ (b : Int) := by omega
  have hb1 : (b : Int) < 4 := by omega
  go_enter Try.func49, Try.ntmps49
  go_wp2_with fail
  go_loopg [11] 4 (fun g s11 wr => ∃ m : Nat, m ≤ 4 ∧ g = 4 - m ∧ s11 = .int .i64 m ∧ (∀ t : Nat, t < m → 0 ≤ x.lim b t → x.sent b t - x.sent t b ≤ x.lim b t) ∧ wr.heap[w.heap.size]? = some (.cells (hc x s) 29 (0, 0)) ∧ Below w.heap.size w wr)
  case atStart => exact ⟨0, by omega, rfl, rfl, fun t ht => by omega, hg, hB0⟩
  case round =>
   clear hg hB0
   obtain ⟨m, hm, rfl, rfl, hok, hg, hB⟩ := hrel
   have hcl := cells_at hg
   have hsz := hB.size
   replace hok := Lib.hid hok
   by_cases h4 : m < 4
   ·have h4d : decide ((m : Int) < 4) = true := decide_eq_true (by omega)
    have cN := net_any x s b m
    by_cases hl : 0 ≤ x.lim b m
    ·have hld : decide (x.lim b m ≥ 0) = true := decide_eq_true hl
     have hld2 : decide (0 ≤ x.lim b m) = true := decide_eq_true hl
     by_cases ho : x.sent b m - x.sent m b ≤ x.lim b m
     ·have hod : decide (x.lim b m < x.sent b m - x.sent m b) = false := decide_eq_false (by omega)
      replace cN := Lib.hid cN
      go_wp2_with (first | go_skip | (refine ld_row 29 _ rfl rfl _ rfl _ _ _ _ hg Try.underlying29 rfl info30 ?_) | (go_at_call 23; refine (cN.out _ (by omega) (by omega) (by omega) (by omega) hr).mono ?_; rintro e w1 ⟨rfl, hb1⟩))
      go_roundg (4 - (m + 1))
      case measure => omega
      case rel =>
       refine ⟨m + 1, by omega, rfl, by go_num, fun t ht hlt => ?_, hkeep hb1 hg, bstep hB hsz hb1⟩
       by_cases e : t = m
       ·rw [e]; exact ho
       ·exact hok.out t (by omega) hlt
     ·have hod : decide (x.lim b m < x.sent b m - x.sent m b) = true := decide_eq_true (by omega)
      have fin : fineB x b n = false := fineB_no (fun h => h.elim hn fun h => ho (h.lim m (by omega) (by omega) hl))
      replace fin := Lib.hid fin
      replace cN := Lib.hid cN
      go_wp2_with (first | go_skip | (refine ld_row 29 _ rfl rfl _ rfl _ _ _ _ hg Try.underlying29 rfl info30 ?_) | (go_at_call 23; refine (cN.out _ (by omega) (by omega) (by omega) (by omega) hr).mono ?_; rintro e w1 ⟨rfl, hb1⟩))
      go_ret
      exact ⟨by rw [fin.out]; rfl, bstep hB hsz hb1⟩
    ·have hld : decide (x.lim b m ≥ 0) = false := decide_eq_false hl
     have hld2 : decide (0 ≤ x.lim b m) = false := decide_eq_false hl
     replace cN := Lib.hid cN
     go_wp2_with fail
     go_roundg (4 - (m + 1))
     case measure => omega
     case rel =>
      refine ⟨m + 1, by omega, rfl, by go_num, fun t ht hlt => ?_, hg, hB⟩
      by_cases e : t = m
      ·rw [e] at hlt; omega
      ·exact hok.out t (by omega) hlt
   ·obtain rfl : m = 4 := by omega
    have fin : fineB x b n = decide (0 ≤ x.has b + x.cr b) := by
     by_cases h0 : 0 ≤ x.has b + x.cr b
     ·rw [decide_eq_true h0]
      exact fineB_yes (.inr ⟨h0, fun t t0 t1 hl => by obtain ⟨j, rfl⟩ := Int.eq_ofNat_of_zero_le t0; exact hok.out j (by omega) hl⟩)
     ·rw [decide_eq_false h0]
      exact fineB_no (fun h => h.elim hn fun h => h0 h.left)
    replace fin := Lib.hid fin
    go_wp2_with (first | go_skip | (refine ld_row 29 _ rfl rfl _ rfl _ _ _ _ hg Try.underlying29 rfl info30 ?_) | (go_at_call 22; refine (left_any x s b _ (by omega) (by omega) hr).mono ?_; rintro e w1 ⟨rfl, hb1⟩))
    go_ret
    exact ⟨by rw [fin.out]; rfl, bstep hB hsz hb1⟩
/-- Four lists. -/
def qc (q : Nat → Value) : Array Value := #[q 0, q 1, q 2, q 3]
theorem qc_get (q : Nat → Value) (m : Nat) (h : m < 4) : (qc q)[m]? = some (q m) := by
 match m, h with
 | 0, _ => rfl
 | 1, _ => rfl
 | 2, _ => rfl
 | 3, _ => rfl
theorem qc_set (q : Nat → Value) (m : Nat) (v : Value) (h : m < 4) : (qc q).setIfInBounds m v = qc (fun b => if b = m then v else q b) := by
 match m, h with
 | 0, _ => rfl
 | 1, _ => rfl
 | 2, _ => rfl
 | 3, _ => rfl
theorem info93 : (Try.prog.info? 78).map (·.size) = some 4 := by kernel_rfl
theorem qc_size (q : Nat → Value) : (qc q).size = 4 := rfl
theorem qc_one {q : Nat → Value} (h : ∀ b, b < 4 → (q b).oneCell' = true) : (qc q).all (·.oneCell') = true := by
 simp [qc, h 0 (by omega), h 1 (by omega), h 2 (by omega), h 3 (by omega)]
theorem OwnInts.setC {w : World} {base : Nat} {v : Value} {l : List Int} (h : OwnInts w base v l) {g i : Nat} (u : Value) (hg : g < base) : OwnInts (w.setCell ⟨g, i, none⟩ u) base v l := by
 obtain ⟨⟨hlen, hv⟩, hroom⟩ := h
 refine ⟨⟨hlen, ?_⟩, hroom⟩
 rcases hv with h0 | ⟨g', cap, cur, rfl, hb', hg', hrest⟩
 ·exact .inl h0
 ·exact .inr ⟨g', cap, cur, rfl, hb', hsetOther hg' (by omega) u, hrest⟩
/-- The queues of all four banks. -/
def QsPost (l : List Pay) (w : World) (e : Ending) (w' : World) : Prop := (∃ (q : Nat → Value) (xs : Nat → List Nat), e = .returned (.agg (qc q)) ∧ ∀ b : Nat, b < 4 → IsQueue l (b : Int) (xs b) ∧ OwnInts w' w.heap.size (q b) (nats (xs b))) ∧ Below w.heap.size w w'
attribute [local go_sem] qc_size
set_option maxRecDepth 100000 in
set_option maxHeartbeats 2000000 in
theorem queues_any (h : Hs) (l : List Pay) (a : Option Addr) (cap : Nat) (w : World) (hp : PaysAt w a cap l) :
  Calls Try.prog 47 #[.agg (hc h (.slice a l.length cap))] w (QsPost l w) := by
 replace hp := Lib.hid hp
 go_enter Try.func47, Try.ntmps47
 go_upto_region 2 with fail
 generalize hW : World.alloc (World.alloc (World.alloc w _) _) _ = W0
 have hgA : W0.heap[w.heap.size]? = some (.cells (hc h (.slice a l.length cap)) 29 (0, 0)) := by rw [← hW]; exact hold (heap_alloc2_old w _ _) _
 have hgZ : W0.heap[w.heap.size + 1]? = some (.cells (qc fun _ => .slice none 0 0) 78 (0, 0)) := by rw [← hW]; exact hold (heap_alloc2_new w _ _) _
 have hgL : W0.heap[w.heap.size + 2]? = some (.cells (qc fun _ => .slice none 0 0) 78 (0, 0)) := by
  rw [← hW]
  have := hnew (World.alloc (World.alloc w (.cells (hc h (.slice a l.length cap)) 29)) (.cells (qc fun _ => .slice none 0 0) 78)) (.cells (qc fun _ => .slice none 0 0) 78)
  rw [alloc_sz, alloc_sz] at this
  exact this
 have hB : Below w.heap.size w W0 := by rw [← hW]; exact (((Below.refl w.heap.size w).alloc (Nat.le_refl _) _).alloc (by simp) _).alloc (by simp; omega) _
 clear hW
 go_wp2_with fail
 go_loopg [5] 4 (fun g s5 wr => ∃ (m : Nat) (q : Nat → Value) (xs : Nat → List Nat), m ≤ 4 ∧ g = 4 - m ∧ s5 = .int .i64 m ∧ (∀ b, b < 4 → m ≤ b → q b = .slice none 0 0) ∧ (∀ b : Nat, b < m → IsQueue l (b : Int) (xs b) ∧ OwnInts wr (w.heap.size + 3) (q b) (nats (xs b))) ∧ wr.heap[w.heap.size]? = some (.cells (hc h (.slice a l.length cap)) 29 (0, 0)) ∧ wr.heap[w.heap.size + 1]? = some (.cells (qc fun _ => .slice none 0 0) 78 (0, 0)) ∧ wr.heap[w.heap.size + 2]? = some (.cells (qc q) 78 (0, 0)) ∧ Below w.heap.size w wr)
 case atStart => exact ⟨0, fun _ => .slice none 0 0, fun _ => [], by omega, rfl, rfl, fun _ _ _ => rfl, fun b hb => by omega, hgA, hgZ, hgL, hB⟩
 case round =>
  clear hgA hgZ hgL hB
  obtain ⟨m, q, xs, hm, rfl, rfl, hnil, hown, hgA, hgZ, hgL, hB⟩ := hrel
  have hsz := hB.size
  replace hnil := Lib.hid hnil
  replace hown := Lib.hid hown
  by_cases h4 : m < 4
  ·have h4d : decide ((m : Int) < 4) = true := decide_eq_true (by omega)
   have hm0 : (m : Int) < 4 := by omega
   have hpx := hp.out.below hB
   go_wp2_with (first | go_skip | (refine ld_row 29 _ rfl rfl _ rfl _ _ _ _ hgA Try.underlying29 rfl info30 ?_) | (go_at_call 69; refine (of_any h l a cap (m : Int) _ hpx).mono ?_; rintro e w1 ⟨⟨v, ys, rfl, hq1, hxo⟩, hb1⟩; obtain ⟨av, cv, rfl, _, _⟩ := hxo.at_; have hcL := (cells_at (hkeep hb1 hgL) m).trans (qc_get q m h4); have hfL := frozenAt (hkeep hb1 hgL)))
   have hA1 := hkeep hb1 hgA
   have hZ1 := hkeep hb1 hgZ
   have hL1 := hkeep hb1 hgL
   have hz := hlt hgL
   have hA2 := hsetOther hA1 (g := w.heap.size + 2) (i := m) (by omega) (.slice av (nats ys).length cv)
   have hZ2 := hsetOther hZ1 (g := w.heap.size + 2) (i := m) (by omega) (.slice av (nats ys).length cv)
   have hL2 := hsetSame (i := m) hL1 (.slice av (nats ys).length cv)
   rw [qc_set q m _ h4] at hL2
   have hB1 := hB.trans (hb1.mono hsz)
   have hB2 := hB1.setCell (p := ⟨w.heap.size + 2, m, none⟩) (by show w.heap.size ≤ w.heap.size + 2; omega) (.slice av (nats ys).length cv)
   go_roundg (4 - (m + 1))
   case measure => omega
   case rel =>
    refine ⟨m + 1, fun b => if b = m then .slice av (nats ys).length cv else q b, fun b => if b = m then ys else xs b, by omega, rfl, by go_num, fun b hb hmb => ?_, fun b hb => ?_, hA2, hZ2, hL2, hB2⟩
    ·dsimp only
     rw [if_neg (by omega)]; exact hnil.out b hb (by omega)
    ·by_cases e : b = m
     ·subst e
      simp only [if_true]
      exact ⟨hq1, (hxo.mono (by omega)).setC _ (by omega)⟩
     ·dsimp only
      rw [if_neg e, if_neg e]
      obtain ⟨h1, h2⟩ := hown.out b (by omega)
      exact ⟨h1, (h2.below hb1).setC _ (by omega)⟩
  ·obtain rfl : m = 4 := by omega
   have hone : (qc q).all (·.oneCell') = true := qc_one fun b hb => (hown.out b hb).2.one
   go_wp2_with (first | go_skip | (refine ld_row 78 _ rfl rfl _ rfl _ _ _ _ hgL Try.underlying78 rfl info93 ?_) | (refine st_row 78 _ _ rfl rfl _ rfl _ rfl _ _ hgZ info93 rfl hone ?_; intro w5 hr5 hgr5 hsz5))
   refine bodyPost_ret (results_cell_row rfl _ _ _ 78 _ (0, 0) _ rfl hr5 Try.underlying78 rfl info93) rfl ⟨⟨q, xs, rfl, fun b hb => ?_⟩, ?_⟩
   ·obtain ⟨h1, h2⟩ := hown.out b hb
    exact ⟨h1, (h2.grownP hgr5 (by omega)).mono (by omega)⟩
   ·exact hB.grown hgr5 hsz fun k hk => by cases hk; omega
end Go.Proofs.Ytggfdkkhlokmlab

namespace Go.Proofs.Ytggfdkkhlokmlab
open Go.RowKit
attribute [local go_sem] hc_pays hc_next hc_size pc_0 pc_1 pc_2 pc_3 pc_4 pc_5
/-- Four ints. -/
def nc (n : Nat → Int) : Array Value := #[.int .i64 (n 0), .int .i64 (n 1), .int .i64 (n 2), .int .i64 (n 3)]
theorem nc_get (n : Nat → Int) (m : Nat) (h : m < 4) : (nc n)[m]? = some (.int .i64 (n m)) := by
 match m, h with
 | 0, _ => rfl
 | 1, _ => rfl
 | 2, _ => rfl
 | 3, _ => rfl
theorem nc_set (n : Nat → Int) (m : Nat) (v : Int) (h : m < 4) : (nc n).setIfInBounds m (.int .i64 v) = nc (fun b => if b = m then v else n b) := by
 match m, h with
 | 0, _ => rfl
 | 1, _ => rfl
 | 2, _ => rfl
 | 3, _ => rfl
theorem nc_one (n : Nat → Int) : (nc n).all (·.oneCell') = true := by
 have hi : ∀ k n, (Value.int k n).oneCell' = true := fun _ _ => rfl
 simp [nc, hi]
/-- The first n of each list, list by list. -/
def fst4 (xs : Nat → List Nat) (n : Nat → Nat) : Nat → List Nat
 | 0 => []
 | k + 1 => fst4 xs n k ++ (xs k).take (n k)
/-- A list of indexes that lies in memory. -/
def QAt (w : World) (v : Value) (xs : List Nat) : Prop := ∃ a cap, v = .slice a xs.length cap ∧ IntsAt w a cap (nats xs)
theorem QAt.below {w w' : World} {v : Value} {xs : List Nat} (h : QAt w v xs) (hb : Below w.heap.size w w') : QAt w' v xs :=
 let ⟨a, cap, e, hi⟩ := h; ⟨a, cap, e, hi.below hb⟩
theorem fst4_len {xs : Nat → List Nat} {n : Nat → Nat} {N : Nat} (h : ∀ b, b < 4 → (xs b).length ≤ N) : ∀ k, k ≤ 4 → (fst4 xs n k).length ≤ k * N
 | 0, _ => by simp [fst4]
 | k + 1, hk => by
  have ih := fst4_len (n := n) h k (by omega)
  have := h k (by omega)
  have h2 : ((xs k).take (n k)).length ≤ N := by rw [List.length_take]; omega
  simp only [fst4, List.length_append]
  rw [Nat.add_mul]; omega
theorem moves_snoc (l : List Pay) (A : List Nat) (ys : List Nat) (j i : Nat) (h : Hs) (hj : ys[j]? = some i) : moves l (A ++ ys.take (j + 1)) h = (moves l (A ++ ys.take j) h).move (payAt l i).frm (payAt l i).to (payAt l i).amt := by
 rw [List.take_add_one, hj]
 show moves l (A ++ (ys.take j ++ [i])) h = _
 rw [← List.append_assoc, moves_app]
 rfl
set_option maxRecDepth 100000 in
set_option maxHeartbeats 4000000 in
theorem after_any (h : Hs) (l : List Pay) (a : Option Addr) (cap : Nat) (q : Nat → Value) (xs : Nat → List Nat) (n : Nat → Nat) (w : World) (hp : PaysAt w a cap l) (hq : ∀ b, b < 4 → QAt w (q b) (xs b)) (hn : ∀ b, b < 4 → n b ≤ (xs b).length)
  (hx : ∀ b, b < 4 → (xs b).length ≤ l.length ∧ ∀ i ∈ xs b, i < l.length) (hnear : Near h 0) (hlen : l.length ≤ 24) :
  Calls Try.prog 48 #[.agg (hc h (.slice a l.length cap)), .agg (qc q), .agg (nc fun b => (n b : Int))] w fun e w' => e = .returned (.agg (hc (moves l (fst4 xs n 4) h) (.slice a l.length cap))) ∧ Below w.heap.size w w' := by
 have hroom : ∀ m j, m < 4 → (moves l (fst4 xs n m ++ (xs m).take j) h).Room := fun m j hm => by
  have h1 := Near.moves (l := l) (fst4 xs n m ++ (xs m).take j) hnear (by omega)
  refine h1.room ?_
  have h2 := fst4_len (xs := xs) (n := n) (fun b hb => (hx b hb).1) m (by omega)
  have h3 := (hx m hm).1
  have h5 : m * l.length ≤ 4 * l.length := Nat.mul_le_mul_right _ (by omega)
  rw [List.length_append, List.length_take]
  omega
 have hone : (Value.slice a l.length cap).oneCell' = true := rfl
 have hml : (l.length : Int) ≤ 9223372036854775807 := by omega
 replace hp := Lib.hid hp
 replace hq := Lib.hid hq
 replace hn := Lib.hid hn
 replace hx := Lib.hid hx
 replace hroom := Lib.hid hroom
 go_enter Try.func48, Try.ntmps48
 go_upto_region 1 with fail
 generalize hW : World.alloc (World.alloc (World.alloc (World.alloc w _) _) _) _ = W0
 have hgA : W0.heap[w.heap.size]? = some (.cells (hc h (.slice a l.length cap)) 29 (0, 0)) := by rw [← hW]; exact hold (hold (heap_alloc2_old w _ _) _) _
 have hgL : W0.heap[w.heap.size + 1]? = some (.cells (qc q) 78 (0, 0)) := by rw [← hW]; exact hold (hold (heap_alloc2_new w _ _) _) _
 have hgN : W0.heap[w.heap.size + 2]? = some (.cells (nc fun b => (n b : Int)) 25 (0, 0)) := by
  rw [← hW]
  have := hnew (World.alloc (World.alloc w (.cells (hc h (.slice a l.length cap)) 29)) (.cells (qc q) 78)) (.cells (nc fun b => (n b : Int)) 25)
  rw [alloc_sz, alloc_sz] at this
  exact hold this _
 have hgZ : W0.heap[w.heap.size + 3]? = some (.cells (hc Hs.zero (.slice none 0 0)) 29 (0, 0)) := by
  rw [← hW]
  have := hnew (World.alloc (World.alloc (World.alloc w (.cells (hc h (.slice a l.length cap)) 29)) (.cells (qc q) 78)) (.cells (nc fun b => (n b : Int)) 25)) (.cells (hc Hs.zero (.slice none 0 0)) 29)
  rw [alloc_sz, alloc_sz, alloc_sz] at this
  exact this
 have hB : Below w.heap.size w W0 := by rw [← hW]; exact ((((Below.refl w.heap.size w).alloc (Nat.le_refl _) _).alloc (by simp) _).alloc (by simp; omega) _).alloc (by simp; omega) _
 clear hW
 go_wp2_with fail
 go_loopg [11] 4 (fun g s11 wr => ∃ m : Nat, m ≤ 4 ∧ g = 4 - m ∧ s11 = .int .i64 m ∧ wr.heap[w.heap.size]? = some (.cells (hc (moves l (fst4 xs n m) h) (.slice a l.length cap)) 29 (0, 0)) ∧ wr.heap[w.heap.size + 1]? = some (.cells (qc q) 78 (0, 0)) ∧ wr.heap[w.heap.size + 2]? = some (.cells (nc fun b => (n b : Int)) 25 (0, 0)) ∧ wr.heap[w.heap.size + 3]? = some (.cells (hc Hs.zero (.slice none 0 0)) 29 (0, 0)) ∧ Below w.heap.size w wr)
 case atStart => exact ⟨0, by omega, rfl, rfl, hgA, hgL, hgN, hgZ, hB⟩
 case round =>
  clear hgA hgL hgN hgZ hB
  obtain ⟨m, hm, rfl, rfl, hgA, hgL, hgN, hgZ, hB⟩ := hrel
  by_cases h4 : m < 4
  ·have h4d : decide ((m : Int) < 4) = true := decide_eq_true (by omega)
   have hm0 : (m : Int) < 4 := by omega
   obtain ⟨al, cl, eq, hil⟩ := (hq.out m h4).below hB
   have hnm := hn.out m h4
   have hle := hil.le
   have hcm := hil.capm
   rw [nats_len] at hle
   have cL : wr.cell? ⟨w.heap.size + 1, m, none⟩ = some (.slice al (xs m).length cl) := by rw [cells_at hgL, qc_get q m h4, eq]
   have cN : wr.cell? ⟨w.heap.size + 2, m, none⟩ = some (.int .i64 (n m : Int)) := by rw [cells_at hgN, nc_get _ m h4]
   have hn0 : (0 : Int) ≤ (n m : Int) := by omega
   have hnc : (n m : Int) ≤ (cl : Int) := by omega
   have hcl : (cl : Int) ≤ 9223372036854775807 := by unfold maxLen at hcm; omega
   have hBn : ∀ q, Below w.heap.size w (wr.drewN q) := fun q => below_drewN hB q
   have hgAn : ∀ q, (wr.drewN q).heap[w.heap.size]? = some (.cells (hc (moves l (fst4 xs n m) h) (.slice a l.length cap)) 29 (0, 0)) := fun q => hgA
   have hrow : 0 < n m → ∃ b o, al = some ⟨b, o, none⟩ ∧ b < w.heap.size ∧ ∀ j i : Nat, (xs m)[j]? = some i → w.cell? ⟨b, o + j, none⟩ = some (.int .i64 (i : Int)) := fun h0 => by
    obtain ⟨a2, c2, e2, hi2⟩ := hq.out m h4
    rw [eq] at e2
    simp only [Value.slice.injEq] at e2
    obtain ⟨rfl, _, rfl⟩ := e2
    obtain ⟨b, o, e3, hb, hc⟩ := hi2.row (by rw [nats_len]; omega)
    exact ⟨b, o, e3, hb, fun j i hj => hc j i (by simp [nats, hj])⟩
   have hnil : al = none → n m = 0 := fun e => by have := hil.nil0 e; omega
   replace eq := Lib.hid eq
   replace hBn := Lib.hid hBn
   replace hgL := Lib.hid hgL
   replace hgN := Lib.hid hgN
   replace hgZ := Lib.hid hgZ
   replace hgA := Lib.hid hgA
   replace hil := Lib.hid hil
   replace hrow := Lib.hid hrow
   replace hnil := Lib.hid hnil
   clear hgAn
   go_upto_region 4 with fail
   go_cut [20, 21, 22] (fun s20 s21 s22 wx => s21 = .int .i64 (n m : Int) ∧ s22 = .int .i64 0 ∧ (0 < n m → ∃ b o c, s20 = .slice (some ⟨b, o, none⟩) (n m) c ∧ b < w.heap.size ∧ ∀ j i : Nat, (xs m)[j]? = some i → w.cell? ⟨b, o + j, none⟩ = some (.int .i64 (i : Int))) ∧ wx.heap[w.heap.size]? = some (.cells (hc (moves l (fst4 xs n m) h) (.slice a l.length cap)) 29 (0, 0)) ∧ wx.heap[w.heap.size + 1]? = some (.cells (qc q) 78 (0, 0)) ∧ wx.heap[w.heap.size + 2]? = some (.cells (nc fun b => (n b : Int)) 25 (0, 0)) ∧ wx.heap[w.heap.size + 3]? = some (.cells (hc Hs.zero (.slice none 0 0)) 29 (0, 0)) ∧ Below w.heap.size w wx)
   case first =>
    cases al with
    | none =>
     obtain h0 := hnil.out rfl
     have hcl0 : cl = 0 := hil.out.nil0 rfl
     have hl0 : (xs m).length = 0 := by omega
     rw [h0] at cN
     rw [hl0] at cL
     subst hcl0
     clear hn0 hnc hnm hle
     go_big_quiet (fail)
     go_wp2_with fail
     go_meet
     case rel => exact ⟨by rw [h0]; rfl, rfl, fun h => by omega, hgA.out, hgL.out, hgN.out, hgZ.out, hBn.out _⟩
    | some ad =>
     go_big_quiet (fail)
     go_wp2_with fail
     go_meet
     case rel =>
      exact ⟨rfl, rfl, fun h => by
       obtain ⟨b, o, e, hb, hc⟩ := hrow.out h
       cases e
       exact ⟨b, o, _, rfl, hb, hc⟩, hgA.out, hgL.out, hgN.out, hgZ.out, hBn.out _⟩
   case rest =>
    clear cL cN
    obtain ⟨rfl, rfl, hls, gA, gL, gN, gZ, hBc⟩ := hcut
    replace hls := Lib.hid hls
    have hnm0 : (n m : Int) ≤ 9223372036854775807 := by omega
    go_wp2_with fail
    go_loopg [22] (n m) (fun g s22 wx => ∃ j : Nat, j ≤ n m ∧ g = n m - j ∧ s22 = .int .i64 j ∧ wx.heap[w.heap.size]? = some (.cells (hc (moves l (fst4 xs n m ++ (xs m).take j) h) (.slice a l.length cap)) 29 (0, 0)) ∧ wx.heap[w.heap.size + 1]? = some (.cells (qc q) 78 (0, 0)) ∧ wx.heap[w.heap.size + 2]? = some (.cells (nc fun b => (n b : Int)) 25 (0, 0)) ∧ wx.heap[w.heap.size + 3]? = some (.cells (hc Hs.zero (.slice none 0 0)) 29 (0, 0)) ∧ Below w.heap.size w wx)
    case atStart => exact ⟨0, by omega, rfl, rfl, by simpa using gA, gL, gN, gZ, hBc⟩
    case round =>
     clear gA gL gN gZ hBc hgA hgL hgN hgZ hB hBn hil
     obtain ⟨j, hj, rfl, rfl, hgA, hgL, hgN, hgZ, hB⟩ := hrel
     by_cases h6 : j < n m
     ·obtain ⟨b, o, c, rfl, hbl, hcc⟩ := hls.out (by omega)
      obtain ⟨i, hji⟩ : ∃ i, (xs m)[j]? = some i := ⟨(xs m)[j], List.getElem?_eq_getElem (by omega)⟩
      have hcell := (hB.cell (p := ⟨b, o + j, none⟩) hbl).trans (hcc j i hji)
      have hiL := (hx.out m h4).2 i (List.mem_of_getElem? hji)
      have hpi := payAt_get hiL
      have hsn := moves_snoc l (fst4 xs n m) (xs m) j i h hji
      have hrj := hroom.out m j h4
      obtain ⟨p, ep⟩ : ∃ p, payAt l i = p := ⟨_, rfl⟩
      rw [ep] at hpi hsn
      obtain ⟨Y, hY⟩ : ∃ Y, moves l (fst4 xs n m ++ (xs m).take j) h = Y := ⟨_, rfl⟩
      rw [hY] at hgA hsn hrj
      obtain ⟨bp, op, rfl, hbp, hcp0⟩ := hp.out.row (by omega)
      have hcp : ∀ k v, (pc p)[k]? = some v → wr.cell? ⟨bp, op + i * 6 + k, none⟩ = some v := fun k v hv => by rw [Nat.add_assoc]; exact (hB.cell (p := ⟨bp, _, none⟩) hbp).trans (hcp0 i p hpi k v hv)
      have hcA := cells_at hgA
      have hji2 : (j : Int) < (n m : Int) := by omega
      have hiL2 : (i : Int) < (l.length : Int) := by omega
      have h6d : decide ((j : Int) < (n m : Int)) = true := decide_eq_true hji2
      have hqn := hnew wr (.cells (pc p) 70)
      have hA1 := hold hgA (.cells (pc p) 70)
      have hcq := cells_at hqn
      have hBa := hB.alloc hB.size (.cells (pc p) 70)
      have hgL1 := Lib.hid (hold hgL (.cells (pc p) 70))
      have hgN1 := Lib.hid (hold hgN (.cells (pc p) 70))
      have hgZ1 := Lib.hid (hold hgZ (.cells (pc p) 70))
      clear hcc hcp0
      replace hcp := Lib.hid hcp
      replace hji := Lib.hid hji
      replace hpi := Lib.hid hpi
      replace hsn := Lib.hid hsn
      replace ep := Lib.hid ep
      replace hY := Lib.hid hY
      replace hgL := Lib.hid hgL
      replace hgN := Lib.hid hgN
      replace hgZ := Lib.hid hgZ
      replace hgA := Lib.hid hgA
      replace hqn := Lib.hid hqn
      replace hA1 := Lib.hid hA1
      go_wp2_with (first | go_skip | (refine ld_cells 70 _ rfl rfl bp (op + i * 6) rfl (pc p) _ Try.underlying70 rfl info36 hcp.out ?_) | (refine st_new 70 _ _ rfl _ 70 _ rfl rfl rfl _ rfl info36 rfl (pc_one p) ?_) | (refine ld_row 29 _ rfl rfl _ rfl _ _ _ _ hA1.out Try.underlying29 rfl info30 ?_) | (go_at_call 70; refine (move_any Y _ p.frm p.to p.amt _ hrj rfl).mono ?_; rintro e w1 ⟨rfl, hb1⟩) | (refine st_row 29 _ _ rfl rfl _ rfl _ rfl _ _ (hkeep hb1 hA1.out) info30 rfl (hc_one _ _ rfl) ?_; intro w2 hr2 hgr2 hsz2))
      have hB1 := hBa.trans (hb1.mono hBa.size)
      go_roundg (n m - (j + 1))
      case measure => omega
      case rel =>
       refine ⟨j + 1, by omega, rfl, by go_num, by rw [hsn.out]; exact hr2, ?_, ?_, ?_, ?_⟩
       ·exact (hgr2.block _ (hlt (hkeep hb1 hgL1.out)) (by simp)).trans (hkeep hb1 hgL1.out)
       ·exact (hgr2.block _ (hlt (hkeep hb1 hgN1.out)) (by simp)).trans (hkeep hb1 hgN1.out)
       ·exact (hgr2.block _ (hlt (hkeep hb1 hgZ1.out)) (by simp)).trans (hkeep hb1 hgZ1.out)
       ·exact hB1.grown hgr2 hB1.size fun x hx => by cases hx; exact Nat.le_refl _
     ·have h6d : decide ((j : Int) < (n m : Int)) = false := decide_eq_false (by omega)
      have hjn : j = n m := by omega
      rw [hjn] at hgA
      replace hjn := Lib.hid hjn
      go_wp2_with fail
      go_roundg (4 - (m + 1))
      case measure => omega
      case rel => exact ⟨m + 1, by omega, rfl, by go_num, hgA, hgL, hgN, hgZ, hB⟩
  ·obtain rfl : m = 4 := by omega
   go_wp2_with (first | go_skip | (refine ld_row 29 _ rfl rfl _ rfl _ _ _ _ hgA Try.underlying29 rfl info30 ?_) | (refine st_row 29 _ _ rfl rfl _ rfl _ rfl _ _ hgZ info30 rfl (hc_one _ _ rfl) ?_; intro w5 hr5 hgr5 hsz5))
   refine bodyPost_ret (results_house rfl _ _ _ _ _ rfl hr5) rfl ⟨rfl, ?_⟩
   exact hB.grown hgr5 hB.size fun k hk => by cases hk; omega
end Go.Proofs.Ytggfdkkhlokmlab

namespace Go.Proofs.Ytggfdkkhlokmlab
open Go.RowKit
theorem fst4_firsts (l : List Pay) (xs : Nat → List Nat) (n : Nat → Nat) (N : Int → Nat) (hx : ∀ b : Nat, b < 4 → xs b = ofL l (b : Int)) (hN : ∀ b : Nat, b < 4 → n b = N (b : Int)) : fst4 xs n 4 = firsts l N 4 := by
 simp only [fst4, firsts, hx 0 (by omega), hx 1 (by omega), hx 2 (by omega), hx 3 (by omega), hN 0 (by omega), hN 1 (by omega), hN 2 (by omega), hN 3 (by omega)]
theorem hc_congr {x y : Hs} (s : Value) (h1 : ∀ i, 0 ≤ i → i < 4 → x.has i = y.has i) (h2 : ∀ i, 0 ≤ i → i < 4 → x.cr i = y.cr i) (h3 : ∀ i k, 0 ≤ i → i < 4 → 0 ≤ k → k < 4 → x.sent i k = y.sent i k) (h4 : ∀ i k, 0 ≤ i → i < 4 → 0 ≤ k → k < 4 → x.lim i k = y.lim i k) (h5 : x.next = y.next) : hc x s = hc y s := by
 simp only [hc, h1 0 (by decide) (by decide), h2 0 (by decide) (by decide), h1 1 (by decide) (by decide), h2 1 (by decide) (by decide), h1 2 (by decide) (by decide), h2 2 (by decide) (by decide), h1 3 (by decide) (by decide), h2 3 (by decide) (by decide), h3 0 0 (by decide) (by decide) (by decide) (by decide), h4 0 0 (by decide) (by decide) (by decide) (by decide), h3 0 1 (by decide) (by decide) (by decide) (by decide), h4 0 1 (by decide) (by decide) (by decide) (by decide), h3 0 2 (by decide) (by decide) (by decide) (by decide), h4 0 2 (by decide) (by decide) (by decide) (by decide), h3 0 3 (by decide) (by decide) (by decide) (by decide), h4 0 3 (by decide) (by decide) (by decide) (by decide), h3 1 0 (by decide) (by decide) (by decide) (by decide), h4 1 0 (by decide) (by decide) (by decide) (by decide), h3 1 1 (by decide) (by decide) (by decide) (by decide), h4 1 1 (by decide) (by decide) (by decide) (by decide), h3 1 2 (by decide) (by decide) (by decide) (by decide), h4 1 2 (by decide) (by decide) (by decide) (by decide), h3 1 3 (by decide) (by decide) (by decide) (by decide), h4 1 3 (by decide) (by decide) (by decide) (by decide), h3 2 0 (by decide) (by decide) (by decide) (by decide), h4 2 0 (by decide) (by decide) (by decide) (by decide), h3 2 1 (by decide) (by decide) (by decide) (by decide), h4 2 1 (by decide) (by decide) (by decide) (by decide), h3 2 2 (by decide) (by decide) (by decide) (by decide), h4 2 2 (by decide) (by decide) (by decide) (by decide), h3 2 3 (by decide) (by decide) (by decide) (by decide), h4 2 3 (by decide) (by decide) (by decide) (by decide), h3 3 0 (by decide) (by decide) (by decide) (by decide), h4 3 0 (by decide) (by decide) (by decide) (by decide), h3 3 1 (by decide) (by decide) (by decide) (by decide), h4 3 1 (by decide) (by decide) (by decide) (by decide), h3 3 2 (by decide) (by decide) (by decide) (by decide), h4 3 2 (by decide) (by decide) (by decide) (by decide), h3 3 3 (by decide) (by decide) (by decide) (by decide), h4 3 3 (by decide) (by decide) (by decide) (by decide), h5]
theorem sum_snoc {α : Type} (f : α → Int) (xs : List α) (k : Nat) (i : α) (h : xs[k]? = some i) : ((xs.take (k + 1)).map f).sum = ((xs.take k).map f).sum + f i := by
 rw [List.take_add_one, h]
 simp
theorem outs_snoc (l : List Pay) (b : Int) {xs : List Nat} {k i : Nat} (h : xs[k]? = some i) : outs l b (xs.take (k + 1)) = outs l b (xs.take k) + if (payAt l i).frm = b then (payAt l i).amt else 0 := sum_snoc _ xs k i h
theorem ins_snoc (l : List Pay) (t : Int) {xs : List Nat} {k i : Nat} (h : xs[k]? = some i) : ins l t (xs.take (k + 1)) = ins l t (xs.take k) + if (payAt l i).to = t then (payAt l i).amt else 0 := sum_snoc _ xs k i h
theorem tot_snoc (l : List Pay) (b t : Int) {xs : List Nat} {k i : Nat} (h : xs[k]? = some i) : tot l b t (xs.take (k + 1)) = tot l b t (xs.take k) + if (payAt l i).frm = b ∧ (payAt l i).to = t then (payAt l i).amt else 0 := sum_snoc _ xs k i h
theorem lessN_self (n : Int → Nat) (b : Int) : lessN n b b = n b - 1 := by simp [lessN]
theorem lessN_ne (n : Int → Nat) {b c : Int} (h : c ≠ b) : lessN n b c = n c := by simp [lessN, h]
theorem after_less_has {l : List Pay} (hl : AllPay l) (h : Hs) {N : Int → Nat} {b : Int} {k i : Nat} (hb : 0 ≤ b ∧ b < 4) (hk : N b = k + 1) (hi : (ofL l b)[k]? = some i) {c : Int} (hc : 0 ≤ c ∧ c < 4) :
  (after l (lessN N b) h).has c = (after l N h).has c + (if c = (payAt l i).frm then (payAt l i).amt else 0) - (if c = (payAt l i).to then (payAt l i).amt else 0) := by
 have hf : (payAt l i).frm = b := (ofL_mem.1 (List.mem_of_getElem? hi)).2.2
 rw [after_has hl _ _ hc, after_has hl _ _ hc, hf]
 have ho : outs l c ((ofL l c).take (N c)) = outs l c ((ofL l c).take (lessN N b c)) + if c = b then (payAt l i).amt else 0 := by
  by_cases e : c = b
  ·subst e
   rw [lessN_self, hk, outs_snoc l c hi, hf]; simp
  ·rw [lessN_ne N e, if_neg e]; omega
 have hin : ∀ t : Int, ins l c ((ofL l t).take (N t)) = ins l c ((ofL l t).take (lessN N b t)) + if t = b then (if c = (payAt l i).to then (payAt l i).amt else 0) else 0 := fun t => by
  by_cases e : t = b
  ·subst e
   rw [lessN_self, hk, ins_snoc l c hi, if_pos rfl]
   by_cases e2 : (payAt l i).to = c
   ·rw [if_pos e2, if_pos e2.symm]; simp
   ·rw [if_neg e2, if_neg (fun h => e2 h.symm)]; simp
  ·rw [lessN_ne N e, if_neg e]; omega
 have i0 := hin 0; have i1 := hin 1; have i2 := hin 2; have i3 := hin 3
 rcases four hb with rfl | rfl | rfl | rfl
 all_goals
  simp only [Int.reduceEq, if_true, if_false] at i0 i1 i2 i3
  omega
theorem after_less_sent {l : List Pay} (hl : AllPay l) (h : Hs) {N : Int → Nat} {b : Int} {k i : Nat} (hk : N b = k + 1) (hi : (ofL l b)[k]? = some i) {c : Int} (t : Int) (hc : 0 ≤ c ∧ c < 4) :
  (after l (lessN N b) h).sent c t = (after l N h).sent c t - if c = (payAt l i).frm ∧ t = (payAt l i).to then (payAt l i).amt else 0 := by
 have hf : (payAt l i).frm = b := (ofL_mem.1 (List.mem_of_getElem? hi)).2.2
 rw [after_sent hl _ _ t hc, after_sent hl _ _ t hc, hf]
 by_cases e : c = b
 ·subst e
  rw [lessN_self, hk, tot_snoc l c t hi, hf]
  by_cases e2 : (payAt l i).to = t
  ·rw [if_pos ⟨rfl, e2⟩, if_pos ⟨rfl, e2.symm⟩]; simp; omega
  ·rw [if_neg (fun h => e2 h.2), if_neg (fun h => e2 h.2.symm)]; simp
 ·rw [lessN_ne N e, if_neg (fun h => e h.1)]; omega
/-- What Most's three assignments make of the house. -/
theorem hc_less {l : List Pay} (hl : AllPay l) (h : Hs) (s : Value) {N : Int → Nat} {b : Int} {k i : Nat} (hb : 0 ≤ b ∧ b < 4) (hk : N b = k + 1) (hi : (ofL l b)[k]? = some i) :
  hc ((((after l N h).setHas (payAt l i).frm ((after l N h).has (payAt l i).frm + (payAt l i).amt)).setHas (payAt l i).to ((after l N h).has (payAt l i).to - (payAt l i).amt)).setSent (payAt l i).frm (payAt l i).to ((after l N h).sent (payAt l i).frm (payAt l i).to - (payAt l i).amt)) s = hc (after l (lessN N b) h) s := by
 have hs := hl i (ofL_mem.1 (List.mem_of_getElem? hi)).1
 have hne := hs.ne
 refine hc_congr s (fun c c0 c1 => ?_) (fun c c0 c1 => ?_) (fun c t c0 c1 t0 t1 => ?_) (fun c t c0 c1 t0 t1 => ?_) ?_
 ·rw [after_less_has hl h hb hk hi ⟨c0, c1⟩]
  simp only [Hs.setSent, Hs.setHas]
  by_cases e : c = (payAt l i).to
  ·rw [if_pos e, if_pos e, if_neg (fun e' => hne (e'.symm.trans e)), e]; omega
  ·rw [if_neg e, if_neg e]
   by_cases e' : c = (payAt l i).frm
   ·rw [if_pos e', if_pos e', e']; omega
   ·rw [if_neg e', if_neg e']; omega
 ·simp only [Hs.setSent, Hs.setHas]; rw [after_cr, after_cr]
 ·rw [after_less_sent hl h hk hi t ⟨c0, c1⟩]
  simp only [Hs.setSent, Hs.setHas]
  by_cases e : c = (payAt l i).frm ∧ t = (payAt l i).to
  ·rw [if_pos e, if_pos e, e.1, e.2]
  ·rw [if_neg e, if_neg e]; omega
 ·simp only [Hs.setSent, Hs.setHas]; rw [after_lim, after_lim]
 ·simp only [Hs.setSent, Hs.setHas]; rw [after_next, after_next]
end Go.Proofs.Ytggfdkkhlokmlab

namespace Go.Proofs.Ytggfdkkhlokmlab
open Go.RowKit
attribute [local go_sem high] neq_accs neq_sents neq_lims neq_pay neq_pay6
attribute [local go_sem] hc_pays hc_next hc_size pc_0 pc_1 pc_2 pc_3 pc_4 pc_5
/-- The way from S: each that was done was the first of its bank, and might be done. -/
structure Way (S T : St) : Prop where
 fin : T = settleAll T.d S
 step : ∀ k n, T.d[k]? = some n → ∃ b ys, ofL (settleAll (T.d.take k) S).l b = n :: ys ∧ (settleAll (T.d.take k) S).may n = true
theorem Way.settle {S T : St} (w : Way S T) {b : Int} {i : Nat} {xs : List Nat} (h : ofL T.l b = i :: xs) (hm : T.may i = true) : Way S (T.settle i) where
 fin := by
  show T.settle i = settleAll (T.d ++ [i]) S
  rw [settleAll_app, ← w.fin]; rfl
 step := fun k n hk => by
  have hk' : (T.d ++ [i])[k]? = some n := hk
  show ∃ b ys, ofL (settleAll ((T.d ++ [i]).take k) S).l b = n :: ys ∧ (settleAll ((T.d ++ [i]).take k) S).may n = true
  by_cases h1 : k < T.d.length
  ·rw [List.getElem?_append_left h1] at hk'
   rw [List.take_append_of_le_length (by omega)]
   exact w.step k n hk'
  ·have hkl : k < (T.d ++ [i]).length := (List.getElem?_eq_some_iff.1 hk').1
   have e : k = T.d.length := by simp at hkl; omega
   subst e
   rw [List.getElem?_append_right (Nat.le_refl _)] at hk'
   simp at hk'
   subst hk'
   rw [List.take_append_of_le_length (Nat.le_refl _), List.take_length, ← w.fin]
   exact ⟨b, xs, h, hm⟩
/-- A store into block g leaves payments elsewhere as they were. -/
theorem PaysAt.past {w w' : World} {a : Option Addr} {cap : Nat} {l : List Pay} {g : Nat} (h : PaysAt w a cap l) (hg : w.grownBy w' (some g)) (ha : 0 < l.length → ∀ b off s, a = some ⟨b, off, s⟩ → b ≠ g) : PaysAt w' a cap l :=
 ⟨h.le, h.capm, h.room, h.nil0, fun hl => let ⟨b, off, e, hbl, hc⟩ := h.row hl
  ⟨b, off, e, Nat.lt_of_lt_of_le hbl hg.size, fun i p hp j v hv => (World.cell?_of_block (hg.block b hbl (by simpa using ha hl b off none e))).trans (hc i p hp j v hv)⟩⟩
theorem IntsAt.past {w w' : World} {a : Option Addr} {cap : Nat} {l : List Int} {g : Nat} (h : IntsAt w a cap l) (hg : w.grownBy w' (some g)) (ha : 0 < l.length → ∀ b off s, a = some ⟨b, off, s⟩ → b ≠ g) : IntsAt w' a cap l :=
 ⟨h.le, h.capm, h.room, h.nil0, fun hl => let ⟨b, off, e, hbl, hc⟩ := h.row hl
  ⟨b, off, e, Nat.lt_of_lt_of_le hbl hg.size, fun i n hn => (World.cell?_of_block (hg.block b hbl (by simpa using ha hl b off none e))).trans (hc i n hn)⟩⟩
end Go.Proofs.Ytggfdkkhlokmlab

namespace Go.Proofs.Ytggfdkkhlokmlab
open Go.RowKit
attribute [local go_sem] hc_has hc_cr hc_sent hc_lim hc_pays hc_next hc_size pc_0 pc_1 pc_2 pc_3 pc_4 pc_5 qc_size
theorem nc_size (n : Nat → Int) : (nc n).size = 4 := rfl
attribute [local go_sem] nc_size
theorem grown_refl (w : World) (r : Option Nat) : w.grownBy w r := ⟨rfl, rfl, rfl, Nat.le_refl _, fun _ _ _ => rfl⟩
theorem grown_below {W wr wx : World} {g : Nat} (h : W.grownBy wr (some g)) (hb : Below wr.heap.size wr wx) : W.grownBy wx (some g) :=
 ⟨hb.os.trans h.os, hb.tape.trans h.tape, hb.output.trans h.output, Nat.le_trans h.size hb.size, fun k hk hne => (hb.block k (Nat.lt_of_lt_of_le hk h.size)).trans (h.block k hk hne)⟩
theorem grown_set {W wr : World} {g i : Nat} (h : W.grownBy wr (some g)) (v : Value) : W.grownBy (wr.setCell ⟨g, i, none⟩ v) (some g) :=
 ⟨h.os, h.tape, h.output, by simp [World.setCell]; exact h.size, fun k hk hne => (heap_setCell_other _ _ _ _ (by simpa using hne)).trans (h.block k hk hne)⟩
theorem grown_set2 {W wr : World} {g x i : Nat} (h : W.grownBy wr (some g)) (hx : W.heap.size ≤ x) (v : Value) : W.grownBy (wr.setCell ⟨x, i, none⟩ v) (some g) :=
 ⟨h.os, h.tape, h.output, by simp [World.setCell]; exact h.size, fun k hk hne => (heap_setCell_other _ _ _ _ (by simp; omega)).trans (h.block k hk hne)⟩
/-- What Most answers: of every bank the most. -/
noncomputable def mostN (h : Hs) (l : List Pay) (b : Nat) : Int := if goodB h l = true then (mostOf h l (b : Int) : Int) else 0
def MostPost (h : Hs) (l : List Pay) (w : World) (e : Ending) (w' : World) : Prop := e = .returned (.agg (nc (mostN h l))) ∧ Below w.heap.size w w'
theorem nc_congr {n m : Nat → Int} (h : ∀ b, b < 4 → n b = m b) : nc n = nc m := by simp only [nc, h 0 (by omega), h 1 (by omega), h 2 (by omega), h 3 (by omega)]
set_option maxRecDepth 100000 in
set_option maxHeartbeats 1000000 in
theorem most_bad (h : Hs) (l : List Pay) (a : Option Addr) (cap : Nat) (w : World) (hp : PaysAt w a cap l) (hgb : goodB h l = false) :
  Calls Try.prog 17 #[.agg (hc h (.slice a l.length cap))] w (MostPost h l w) := by
 have hm : nc (mostN h l) = nc fun _ => 0 := nc_congr fun b _ => by simp [mostN, hgb]
 replace hm := Lib.hid hm
 replace hgb := Lib.hid hgb
 replace hp := Lib.hid hp
 go_enter Try.func17, Try.ntmps17
 go_upto_region 2 with fail
 generalize hW : World.alloc (World.alloc (World.alloc w _) _) _ = W0
 have hgA : W0.heap[w.heap.size]? = some (.cells (hc h (.slice a l.length cap)) 29 (0, 0)) := by rw [← hW]; exact hold (heap_alloc2_old w _ _) _
 have hgZ : W0.heap[w.heap.size + 1]? = some (.cells (nc fun _ => 0) 25 (0, 0)) := by rw [← hW]; exact hold (heap_alloc2_new w _ _) _
 have hgN : W0.heap[w.heap.size + 2]? = some (.cells (nc fun _ => 0) 25 (0, 0)) := by
  rw [← hW]
  have := hnew (World.alloc (World.alloc w (.cells (hc h (.slice a l.length cap)) 29)) (.cells (nc fun _ => 0) 25)) (.cells (nc fun _ => 0) 25)
  rw [alloc_sz, alloc_sz] at this
  exact this
 have hB : Below w.heap.size w W0 := by rw [← hW]; exact (((Below.refl w.heap.size w).alloc (Nat.le_refl _) _).alloc (by simp) _).alloc (by simp; omega) _
 have hp0 := hp.out.below hB
 clear hW
 go_wp2_with (first | go_skip | (refine ld_row 29 _ rfl rfl _ rfl _ _ _ _ hgA Try.underlying29 rfl info30 ?_) | (go_at_call 15; refine (good_any h l _ cap _ hp0).mono ?_; rintro e w1 ⟨rfl, hb1⟩; rw [hgb.out]) | (refine ld_row 25 _ rfl rfl _ rfl _ _ _ _ (hkeep hb1 hgN) Try.underlying25 rfl info26 ?_) | (refine st_row 25 _ _ rfl rfl _ rfl _ rfl _ _ (hkeep hb1 hgZ) info26 rfl (nc_one _) ?_; intro w5 hr5 hgr5 hsz5))
 have hB1 : Below w.heap.size w w1 := hB.trans (hb1.mono hB.size)
 have hB5 : Below w.heap.size w w5 := hB1.grown hgr5 hB1.size (fun k hk => by cases hk; omega)
 exact bodyPost_ret (results_cell_row rfl _ _ _ 25 _ (0, 0) _ rfl hr5 Try.underlying25 rfl info26) rfl ⟨by rw [hm.out], hB5⟩
end Go.Proofs.Ytggfdkkhlokmlab

namespace Go.Proofs.Ytggfdkkhlokmlab
open Go.RowKit
attribute [local go_sem] hc_has hc_cr hc_sent hc_lim hc_pays hc_next hc_size pc_0 pc_1 pc_2 pc_3 pc_4 pc_5 qc_size nc_size
/-- Most on its way: n bounds whatever may be done together. -/
structure Up (h : Hs) (l : List Pay) (N : Int → Nat) : Prop where
 le : ∀ b, 0 ≤ b → b < 4 → N b ≤ (ofL l b).length
 most : ∀ m, Tog h l m → LeN m N
theorem Up.start (h : Hs) (l : List Pay) : Up h l (fun b => (ofL l b).length) := ⟨fun _ _ _ => Nat.le_refl _, fun _ ht => ht.le⟩
theorem Up.less {h : Hs} {l : List Pay} (hl : AllPay l) {N : Int → Nat} (u : Up h l N) {b : Int} (hb : 0 ≤ b ∧ b < 4) (hn : ¬ Fine (after l N h) b (N b)) : Up h l (lessN N b) where
 le := fun c c0 c1 => by
  have := u.le c c0 c1
  simp only [lessN]
  split
  ·rename_i e; subst e; omega
  ·omega
 most := fewer hl hb hn u.most
theorem Up.is {h : Hs} {l : List Pay} (hl : AllPay l) {N : Int → Nat} (u : Up h l N) (hf : ∀ b, 0 ≤ b → b < 4 → Fine (after l N h) b (N b)) {b : Int} (h0 : 0 ≤ b) (h1 : b < 4) : N b = mostOf h l b :=
 IsMost.unique ⟨⟨u.le, hf⟩, u.most⟩ (mostOf_is h hl) h0 h1
theorem fine_fineB {x : Hs} {b : Int} {n : Nat} : fineB x b (n : Int) = true ↔ Fine x b n := by
 constructor
 ·intro h; rcases fineB_true h with h | h
  ·exact .inl (by omega)
  ·exact .inr h
 ·rintro (h | h)
  ·exact fineB_yes (.inl (by omega))
  ·exact fineB_yes (.inr h)
theorem near_after {h : Hs} {l : List Pay} (hn : Near h 0) (hlen : l.length ≤ 24) (N : Int → Nat) : Near (after l N h) 96 := by
 have h1 := Near.moves (l := l) (firsts l N 4) hn (by omega)
 refine h1.mono ?_
 have := firsts_len l N
 omega
set_option maxRecDepth 100000 in
set_option maxHeartbeats 4000000 in
theorem most_good (h : Hs) (l : List Pay) (a : Option Addr) (cap : Nat) (w : World) (hp : PaysAt w a cap l) (hgd : GoodP h l) :
  Calls Try.prog 17 #[.agg (hc h (.slice a l.length cap))] w (MostPost h l w) := by
 have hgb := goodB_yes hgd
 have hlen := hgd.len
 have hnd := hgd.nodup
 have hall := hgd.allPay
 have hnear := hgd.near
 have hmn : ∀ b, mostN h l b = (mostOf h l (b : Int) : Int) := fun b => by simp [mostN, hgb]
 have hpb : 0 < l.length → ∀ b off s, a = some ⟨b, off, s⟩ → b ≠ w.heap.size + 2 := fun hl b off s e => by
  obtain ⟨b', off', e', hbl, _⟩ := hp.row hl
  rw [e] at e'; cases e'; omega
 clear hgd
 replace hgb := Lib.hid hgb
 replace hnd := Lib.hid hnd
 replace hall := Lib.hid hall
 replace hnear := Lib.hid hnear
 replace hmn := Lib.hid hmn
 replace hpb := Lib.hid hpb
 replace hp := Lib.hid hp
 go_enter Try.func17, Try.ntmps17
 go_upto_region 2 with fail
 generalize hW : World.alloc (World.alloc (World.alloc w _) _) _ = W0
 have hgA : W0.heap[w.heap.size]? = some (.cells (hc h (.slice a l.length cap)) 29 (0, 0)) := by rw [← hW]; exact hold (heap_alloc2_old w _ _) _
 have hgZ : W0.heap[w.heap.size + 1]? = some (.cells (nc fun _ => 0) 25 (0, 0)) := by rw [← hW]; exact hold (heap_alloc2_new w _ _) _
 have hgN : W0.heap[w.heap.size + 2]? = some (.cells (nc fun _ => 0) 25 (0, 0)) := by
  rw [← hW]
  have := hnew (World.alloc (World.alloc w (.cells (hc h (.slice a l.length cap)) 29)) (.cells (nc fun _ => 0) 25)) (.cells (nc fun _ => 0) 25)
  rw [alloc_sz, alloc_sz] at this
  exact this
 have hB : Below w.heap.size w W0 := by rw [← hW]; exact (((Below.refl w.heap.size w).alloc (Nat.le_refl _) _).alloc (by simp) _).alloc (by simp; omega) _
 have hp0 := hp.out.below hB
 clear hW
 go_upto_region 4 with (first | go_skip | (refine ld_row 29 _ rfl rfl _ rfl _ _ _ _ hgA Try.underlying29 rfl info30 ?_) | (go_at_call 15; refine (good_any h l _ cap _ hp0).mono ?_; rintro e w1 ⟨rfl, hb1⟩; rw [hgb.out]))
 have hgA1 := hkeep hb1 hgA
 have hp1 := hp0.below hb1
 have hB1 : Below w.heap.size w w1 := hB.trans (hb1.mono hB.size)
 go_wp2_with (first | go_skip | (refine ld_row 29 _ rfl rfl _ rfl _ _ _ _ hgA1 Try.underlying29 rfl info30 ?_))
 refine (queues_any h l a cap _ hp1).mono ?_
 rintro e w2 ⟨⟨q, xs, rfl, hqs⟩, hb2⟩
 have hxs : ∀ b : Nat, b < 4 → xs b = ofL l (b : Int) := fun b hb => (hqs b hb).1.eq hnd.out
 have hqw : ∀ b : Nat, b < 4 → OwnInts (w2.alloc (.cells (qc q) 78)) w1.heap.size (q b) (nats (xs b)) := fun b hb => (hqs b hb).2.alloc _
 have hone : (qc q).all (·.oneCell') = true := qc_one fun b hb => (hqs b hb).2.one
 have hA := hold (hkeep hb2 hgA1) (.cells (qc q) 78)
 have hZ := hold (hkeep hb2 (hkeep hb1 hgZ)) (.cells (qc q) 78)
 have hN := hold (hkeep hb2 (hkeep hb1 hgN)) (.cells (qc q) 78)
 have hL := hnew w2 (.cells (qc q) 78)
 have hpW := (hp1.below hb2).alloc (.cells (qc q) 78)
 have hB2 : Below w.heap.size w w2 := hB1.trans (hb2.mono hB1.size)
 have hBW := hB2.alloc hB2.size (.cells (qc q) 78)
 have hw1 : w.heap.size + 2 < w1.heap.size := hlt (hkeep hb1 hgN)
 clear hgA hgZ hgN hB hp0 hb1 hgA1 hp1 hB1 hB2
 replace hqs := Lib.hid hqs
 replace hA := Lib.hid hA
 replace hZ := Lib.hid hZ
 replace hN := Lib.hid hN
 replace hL := Lib.hid hL
 go_upto_region 5 with (first | go_skip | (refine st_new 78 _ _ rfl _ 78 _ rfl rfl rfl (qc q) rfl info93 rfl hone ?_))
 replace hA := hA.out
 replace hZ := hZ.out
 replace hN := hN.out
 replace hL := hL.out
 generalize hW : w2.alloc (.cells (qc q) 78) = W at *
 generalize hC0 : w2.heap.size = bl at *
 clear hW hC0
 have hql : ∀ b : Nat, b < 4 → ∃ al cl, q b = .slice al (xs b).length cl ∧ IntsAt W al cl (nats (xs b)) ∧ (0 < (nats (xs b)).length → ∀ b' off s, al = some ⟨b', off, s⟩ → b' ≠ w.heap.size + 2) := fun b hb => by
  obtain ⟨al, cl, e, hi, hbb⟩ := (hqw b hb).at_
  rw [nats_len] at e
  exact ⟨al, cl, e, hi, fun _ b' off s e' => by have := hbb b' off s e'; omega⟩
 have hbl : bl < W.heap.size := hlt hL
 have hbln : bl ≠ w.heap.size + 2 := fun e => by rw [e, hN] at hL; simp at hL
 have hxl : ∀ b : Nat, b < 4 → (xs b).length ≤ 24 := fun b hb => by rw [hxs b hb]; have := ofL_len l (b : Int); omega
 replace hxs := Lib.hid hxs
 replace hql := Lib.hid hql
 replace hxl := Lib.hid hxl
 replace hbln := Lib.hid hbln
 clear hqw
 have hbn : w.heap.size + 2 < W.heap.size := hlt hN
 replace hA := Lib.hid hA
 replace hZ := Lib.hid hZ
 replace hL := Lib.hid hL
 go_wp2_with fail
 go_loopg [16] 4 (fun g s16 wr => ∃ m : Nat, m ≤ 4 ∧ g = 4 - m ∧ s16 = .int .i64 m ∧ W.grownBy wr (some (w.heap.size + 2)) ∧ wr.heap[w.heap.size + 2]? = some (.cells (nc fun b => if b < m then ((xs b).length : Int) else 0) 25 (0, 0)) ∧ Below w.heap.size w wr)
 case atStart => exact ⟨0, by omega, rfl, rfl, grown_refl _ _, hN, hBW⟩
 case round =>
  clear hN hBW
  obtain ⟨m, hm, rfl, rfl, hK, hN, hB⟩ := hrel
  by_cases h4 : m < 4
  ·obtain ⟨al, cl, eq, hil, _⟩ := hql.out m h4
   have hLr := (hK.block bl hbl (by simpa using hbln.out)).trans hL.out
   have cL : wr.cell? ⟨bl, m, none⟩ = some (.slice al (xs m).length cl) := by rw [cells_at hLr, qc_get q m h4, eq]
   have cN : wr.cell? ⟨w.heap.size + 2, m, none⟩ = some (.int .i64 0) := by rw [cells_at hN, nc_get _ m h4]; simp
   have fN := frozenAt hN m
   have h4d : decide ((m : Int) < 4) = true := decide_eq_true (by omega)
   have hm0 : (m : Int) < 4 := by omega
   have hN2 := hsetSame (i := m) hN (.int .i64 ((xs m).length : Int))
   rw [nc_set _ m _ h4] at hN2
   have hK2 := grown_set (i := m) hK (.int .i64 ((xs m).length : Int))
   have hB2 := hB.setCell (p := ⟨w.heap.size + 2, m, none⟩) (by show w.heap.size ≤ w.heap.size + 2; omega) (.int .i64 ((xs m).length : Int))
   have hrw : nc (fun b => if b = m then ((xs m).length : Int) else if b < m then ((xs b).length : Int) else 0) = nc (fun b => if b < m + 1 then ((xs b).length : Int) else 0) := nc_congr fun b _ => by
    by_cases e : b = m
    ·subst e; simp
    ·rw [if_neg e]
     by_cases e2 : b < m
     ·rw [if_pos e2, if_pos (by omega)]
     ·rw [if_neg e2, if_neg (by omega)]
   rw [hrw] at hN2
   replace eq := Lib.hid eq
   replace hil := Lib.hid hil
   replace hrw := Lib.hid hrw
   go_wp2_with fail
   go_roundg (4 - (m + 1))
   case measure => omega
   case rel => exact ⟨m + 1, by omega, rfl, by go_num, hK2, hN2, hB2⟩
  ·obtain rfl : m = 4 := by omega
   have hN' : wr.heap[w.heap.size + 2]? = some (.cells (nc fun b => ((xs b).length : Int)) 25 (0, 0)) := by
    rw [← nc_congr (n := fun b => if b < 4 then ((xs b).length : Int) else 0) (m := fun b => ((xs b).length : Int)) (fun b hb => by simp [hb])]
    exact hN
   have hAr := (hK.block w.heap.size (by omega) (by simp)).trans hA.out
   have hLr := (hK.block bl hbl (by simpa using hbln.out)).trans hL.out
   have hpr := hpW.past hK hpb.out
   have hqr : ∀ b, b < 4 → QAt wr (q b) (xs b) := fun b hb => by
    obtain ⟨al, cl, e, hi, ha⟩ := hql.out b hb
    exact ⟨al, cl, e, hi.past hK ha⟩
   have cA := after_any h l a cap q xs (fun b => (xs b).length) wr hpr hqr (fun _ _ => Nat.le_refl _) (fun b hb => by rw [hxs.out b hb]; exact ⟨ofL_len l _, fun i hi => (ofL_mem.1 hi).1⟩) hnear.out hlen
   obtain ⟨N0, hN0⟩ : ∃ N0 : Int → Nat, (fun b => (ofL l b).length) = N0 := ⟨_, rfl⟩
   have hup := Up.start h l
   rw [hN0] at hup
   have hxN : ∀ b : Nat, b < 4 → (xs b).length = N0 (b : Int) := fun b hb => by rw [hxs.out b hb, ← hN0]
   rw [show moves l (fst4 xs (fun b => (xs b).length) 4) h = after l N0 h from by rw [fst4_firsts l xs _ N0 hxs.out hxN]; rfl] at cA
   have hN3 : nc (fun b => ((xs b).length : Int)) = nc fun b => (N0 (b : Int) : Int) := nc_congr fun b hb => by rw [hxN b hb]
   clear hN
   replace cA := Lib.hid cA
   replace hup := Lib.hid hup
   replace hN0 := Lib.hid hN0
   replace hxN := Lib.hid hxN
   replace hN3 := Lib.hid hN3
   replace hpW := Lib.hid hpW
   clear hpr hqr
   go_wp2_with (first | go_skip | (refine ld_row 29 _ rfl rfl _ rfl _ _ _ _ hAr Try.underlying29 rfl info30 ?_) | (refine ld_row 78 _ rfl rfl _ rfl _ _ _ _ hLr Try.underlying78 rfl info93 ?_) | (refine ld_row 25 _ rfl rfl _ rfl _ _ _ _ hN' Try.underlying25 rfl info26 ?_))
   refine cA.out.mono ?_
   rintro e w3 ⟨rfl, hb3⟩
   have hK3 := grown_below (grown_below hK hb3) ((Below.refl w3.heap.size w3).alloc (Nat.le_refl _) (.cells (hc (after l N0 h) (.slice a l.length cap)) 29))
   have hN4 := hold (hkeep hb3 hN') (.cells (hc (after l N0 h) (.slice a l.length cap)) 29)
   rw [hN3.out] at hN4
   have hX4 := hnew w3 (.cells (hc (after l N0 h) (.slice a l.length cap)) 29)
   have hB3 := bstep hB hB.size hb3
   have hB4 := hB3.alloc hB3.size (.cells (hc (after l N0 h) (.slice a l.length cap)) 29)
   have hbx : W.heap.size ≤ w3.heap.size := Nat.le_trans hK.size hb3.size
   clear hN' hAr hLr hb3 hB3
   replace hN4 := Lib.hid hN4
   replace hX4 := Lib.hid hX4
   replace hK3 := Lib.hid hK3
   go_upto_region 11 with (first | go_skip | (refine st_new 29 _ _ rfl _ 29 _ rfl rfl rfl (hc (after l N0 h) (.slice a l.length cap)) rfl info30 rfl (hc_one _ _ rfl) ?_))
   replace hN4 := hN4.out
   replace hX4 := hX4.out
   replace hK3 := hK3.out
   generalize hW : w3.alloc (.cells (hc (after l N0 h) (.slice a l.length cap)) 29) = W4 at *
   generalize hC0 : w3.heap.size = bx at *
   clear hW hC0 hK hB
   replace hbx := Lib.hid hbx
   go_wp2_with fail
   go_loopg [7] (2 * sumN N0 + 1) (fun g s7 wx => ∃ (N : Int → Nat) (b : Bool), g = 2 * sumN N + (if b = true then 1 else 0) ∧ s7 = .bool b ∧ Up h l N ∧ (b = false → ∀ c : Nat, c < 4 → Fine (after l N h) (c : Int) (N (c : Int))) ∧ W.grownBy wx (some (w.heap.size + 2)) ∧ wx.heap[w.heap.size + 2]? = some (.cells (nc fun b => (N (b : Int) : Int)) 25 (0, 0)) ∧ wx.heap[bx]? = some (.cells (hc (after l N h) (.slice a l.length cap)) 29 (0, 0)) ∧ Below w.heap.size w wx)
   case atStart => exact ⟨N0, true, rfl, rfl, hup.out, (fun h => by cases h), hK3, hN4, hX4, hB4⟩
   case round =>
    clear hK3 hN4 hX4 hB4 hup
    obtain ⟨N, b, hgg, rfl, hup, hfi, hK, hN, hX, hB⟩ := hrel
    cases b
    ·have hfin : nc (fun b => (N (b : Int) : Int)) = nc (mostN h l) := nc_congr fun b hb => by
      rw [hmn.out b]
      have := hup.is hall.out (fun c c0 c1 => by obtain ⟨j, rfl⟩ := Int.eq_ofNat_of_zero_le c0; exact hfi rfl j (by omega)) (b := (b : Int)) (by omega) (by omega)
      rw [this]
     rw [hfin] at hN
     have hZr := (hK.block (w.heap.size + 1) (by omega) (by simp)).trans hZ.out
     replace hfin := Lib.hid hfin
     replace hX := Lib.hid hX
     clear hfi hup hgg
     go_wp2_with (first | go_skip | (refine ld_row 25 _ rfl rfl _ rfl _ _ _ _ hN Try.underlying25 rfl info26 ?_) | (refine st_row 25 _ _ rfl rfl _ rfl _ rfl _ _ hZr info26 rfl (nc_one _) ?_; intro w5 hr5 hgr5 hsz5))
     exact bodyPost_ret (results_cell_row rfl _ _ _ 25 _ (0, 0) _ rfl hr5 Try.underlying25 rfl info26) rfl ⟨rfl, hB.grown hgr5 hB.size (fun k hk => by cases hk; omega)⟩
    ·clear hfi
     obtain ⟨S0, hS0⟩ : ∃ S0, sumN N = S0 := ⟨_, rfl⟩
     rw [hS0] at hgg
     replace hgg := Lib.hid hgg
     replace hS0 := Lib.hid hS0
     replace hup := Lib.hid hup
     obtain ⟨Ni, hNi⟩ : ∃ Ni : Int → Nat, Ni = N := ⟨_, rfl⟩
     rw [← hNi] at hS0 hup hN hX
     clear hNi N
     go_wp2_with fail
     go_loopg [7, 31] 4 (fun g s7 s31 wx => ∃ (m : Nat) (N : Int → Nat) (b : Bool), m ≤ 4 ∧ g = 4 - m ∧ s31 = .int .i64 m ∧ s7 = .bool b ∧ Up h l N ∧ sumN N ≤ S0 ∧ (b = true → sumN N < S0) ∧ (b = false → ∀ c : Nat, c < m → Fine (after l N h) (c : Int) (N (c : Int))) ∧ W.grownBy wx (some (w.heap.size + 2)) ∧ wx.heap[w.heap.size + 2]? = some (.cells (nc fun b => (N (b : Int) : Int)) 25 (0, 0)) ∧ wx.heap[bx]? = some (.cells (hc (after l N h) (.slice a l.length cap)) 29 (0, 0)) ∧ Below w.heap.size w wx)
     case atStart => exact ⟨0, Ni, false, by omega, rfl, rfl, rfl, hup.out, by have := hS0.out; omega, (fun h => by cases h), fun _ c hc => by omega, hK, hN, hX, hB⟩
     case round =>
      clear hK hN hX hB hup hS0
      obtain ⟨m, N, b, hm, rfl, rfl, rfl, hup, hle, hbt, hfi, hK, hN, hX, hB⟩ := hrel
      by_cases h4 : m < 4
      ·have h4d : decide ((m : Int) < 4) = true := decide_eq_true (by omega)
       have hm0 : (m : Int) < 4 := by omega
       obtain ⟨Ni, hNi⟩ : ∃ Ni : Int → Nat, Ni = N := ⟨_, rfl⟩
       rw [← hNi] at hup hle hbt hfi hN hX
       replace hup := Lib.hid hup
       replace hfi := Lib.hid hfi
       replace hbt := Lib.hid hbt
       clear hNi N
       go_wp2_with fail
       go_loopg [7] (sumN Ni) (fun g s7 wx => ∃ (N : Int → Nat) (b : Bool), g = sumN N ∧ s7 = .bool b ∧ Up h l N ∧ sumN N ≤ S0 ∧ (b = true → sumN N < S0) ∧ (b = false → ∀ c : Nat, c < m → Fine (after l N h) (c : Int) (N (c : Int))) ∧ W.grownBy wx (some (w.heap.size + 2)) ∧ wx.heap[w.heap.size + 2]? = some (.cells (nc fun b => (N (b : Int) : Int)) 25 (0, 0)) ∧ wx.heap[bx]? = some (.cells (hc (after l N h) (.slice a l.length cap)) 29 (0, 0)) ∧ Below w.heap.size w wx)
       case atStart => exact ⟨Ni, b, rfl, rfl, hup.out, hle, hbt.out, hfi.out, hK, hN, hX, hB⟩
       case round =>
        clear hK hN hX hB hup hle hfi hbt
        obtain ⟨N, b, rfl, rfl, hup, hle, hbt, hfi, hK, hN, hX, hB⟩ := hrel
        have hroom := (near_after (h := h) (l := l) hnear.out hlen N).room (by omega)
        obtain ⟨X, hXe⟩ : ∃ X, after l N h = X := ⟨_, rfl⟩
        rw [hXe] at hX hroom
        have hff : fineB X (m : Int) (N (m : Int) : Int) = true ↔ Fine (after l N h) (m : Int) (N (m : Int)) := by rw [hXe]; exact fine_fineB
        obtain ⟨wo, rfl⟩ : ∃ wo : World, wo = wr := ⟨_, rfl⟩
        have hcx := calm_cells hX
        have hcn := calm_cells hN
        have hnx : ∀ x : Wd (Below wo.heap.size wo), x.w.cell? ⟨w.heap.size + 2, m, none⟩ = some (.int .i64 (N (m : Int) : Int)) := fun x => by rw [hcn x m, nc_get _ m h4]
        clear hcn
        cases hf : fineB X (m : Int) (N (m : Int) : Int)
        ·have hnf : ¬ Fine (after l N h) (m : Int) (N (m : Int)) := fun h => by rw [hff.2 h] at hf; cases hf
         have hne : N (m : Int) ≠ 0 := fun e => hnf (.inl e)
         obtain ⟨k, hk⟩ : ∃ k, N (m : Int) = k + 1 := ⟨N (m : Int) - 1, by omega⟩
         have hkl : k < (ofL l (m : Int)).length := by have := hup.le (m : Int) (by omega) (by omega); omega
         obtain ⟨i, hi⟩ : ∃ i, (ofL l (m : Int))[k]? = some i := ⟨(ofL l (m : Int))[k], List.getElem?_eq_getElem hkl⟩
         have hless := hc_less hall.out h (.slice a l.length cap) (N := N) (b := (m : Int)) ⟨by omega, by omega⟩ hk hi
         have hup2 := hup.less hall.out (b := (m : Int)) ⟨by omega, by omega⟩ hnf
         have hsum := lessN_sum (n := N) (b := (m : Int)) ⟨by omega, by omega⟩ hne
         have hiL := (ofL_mem.1 (List.mem_of_getElem? hi)).1
         have hpi := payAt_get hiL
         obtain ⟨f0, f1, t0, t1, hft, a0, a1⟩ := hall.out i hiL
         have hkx : k < (xs m).length := by rw [hxs.out m h4]; exact hkl
         have hik : (xs m)[k]? = some i := by rw [hxs.out m h4]; exact hi
         have hx24 := hxl.out m h4
         obtain ⟨p, ep⟩ : ∃ p, payAt l i = p := ⟨_, rfl⟩
         rw [ep] at hpi f0 f1 t0 t1 hft a0 a1 hless
         rw [hXe] at hless
         have rf := hroom.has p.frm f0 f1
         have rt := hroom.has p.to t0 t1
         have rs := hroom.sent p.frm p.to f0 f1 t0 t1
         have hk1 : (N (m : Int) : Int) = (k : Int) + 1 := by omega
         have hftb : (p.frm == p.to) = false := by simpa using hft
         have cF : ∀ s w, Calls Try.prog 49 #[.agg (hc X s), .int .i64 m, .int .i64 (N (m : Int) : Int)] w fun e w' => e = .returned (.bool false) ∧ Below w.heap.size w w' := fun s w => by rw [← hf]; exact fine_any X s m _ w h4 hroom
         obtain ⟨al, cl, eq, hil, hila⟩ := hql.out m h4
         obtain ⟨bq, oq, rfl, hbq, hcq⟩ := hil.row (by rw [nats_len]; omega)
         obtain ⟨bp, op, rfl, hbp, _⟩ := hpW.out.row (by omega)
         have hqk : (nats (xs m))[k]? = some (i : Int) := by simp [nats, hik]
         have hcle : (xs m).length ≤ cl := by have := hil.le; rw [nats_len] at this; exact this
         replace cF := Lib.hid cF
         replace hf := Lib.hid hf
         replace hff := Lib.hid hff
         replace hnf := Lib.hid hnf
         replace hup := Lib.hid hup
         replace hbt := Lib.hid hbt
         replace hfi := Lib.hid hfi
         replace hk := Lib.hid hk
         replace hk1 := Lib.hid hk1
         replace hi := Lib.hid hi
         replace hless := Lib.hid hless
         replace hup2 := Lib.hid hup2
         replace hsum := Lib.hid hsum
         replace hpi := Lib.hid hpi
         replace ep := Lib.hid ep
         replace hik := Lib.hid hik
         replace hqk := Lib.hid hqk
         replace eq := Lib.hid eq
         replace hcq := Lib.hid hcq
         replace hne := Lib.hid hne
         go_upto_region 17 with fail
         refine calm_region (Below wo.heap.size wo) (by kernel_rfl) (by kernel_rfl) (calm_start wo) ?_
         repeat (first | go_big_quiet_skip | (go_big_quiet_want; first | (refine calm_row 29 _ rfl _ rfl _ _ _ _ (calm_heap hX) Try.underlying29 rfl info30 ?_; (try simp only [Act.put]); (try simp only [List.setIfInBounds_toArray]); (try simp only [List.set_cons_succ]); (try simp only [List.set_cons_zero]); go_big_quiet_on) | (go_big_quiet_op; first | go_big_quiet_on | go_big_quiet_call (first | (go_at_call 49; exact calm_call (calm_below _) (cF.out _ _))))))
         refine wpQuiet_nil ?_
         intro w8 hI
         have hK8 := grown_below hK hI
         have hN8 := hkeep hI hN
         have hX8 := hkeep hI hX
         have hB8 := bstep hB hB.size hI
         have cn8 : w8.cell? ⟨w.heap.size + 2, m, none⟩ = some (.int .i64 ((k : Int) + 1)) := by rw [cells_at hN8, nc_get _ m h4, hk1.out]
         have fn8 := frozenAt hN8 m
         have hNa := hsetSame (i := m) hN8 (.int .i64 (k : Int))
         rw [nc_set _ m _ h4] at hNa
         have hrw : nc (fun b => if b = m then (k : Int) else (N (b : Int) : Int)) = nc (fun b => (lessN N (m : Int) (b : Int) : Int)) := nc_congr fun b _ => by
          by_cases e : b = m
          ·subst e; rw [if_pos rfl, lessN_self, hk.out]; simp
          ·rw [if_neg e, lessN_ne N (by omega)]
         rw [hrw] at hNa
         have hKa := grown_set (i := m) hK8 (.int .i64 (k : Int))
         have hbxn : bx ≠ w.heap.size + 2 := by have := hbx.out; omega
         have hXa := hsetOther (g := w.heap.size + 2) (i := m) hX8 hbxn (.int .i64 (k : Int))
         have hBa := hB8.setCell (p := ⟨w.heap.size + 2, m, none⟩) (by show w.heap.size ≤ w.heap.size + 2; omega) (.int .i64 (k : Int))
         clear hcx hnx hK hN hX hB hK8 hX8 hB8 hI
         replace hN8 := Lib.hid hN8
         replace hrw := Lib.hid hrw
         go_upto_region 19 with fail
         generalize hWa : w8.setCell ⟨w.heap.size + 2, m, none⟩ (.int .i64 (k : Int)) = wa at *
         clear cn8 fn8 hN8 hWa
         have c40 : wa.cell? ⟨w.heap.size, 40, none⟩ = some (.slice (some ⟨bp, op, none⟩) l.length cap) := (cells_at ((hKa.block w.heap.size (by omega) (by simp)).trans hA.out) 40).trans (hc_pays _ _)
         have cl1 : wa.cell? ⟨bl, m, none⟩ = some (.slice (some ⟨bq, oq, none⟩) (xs m).length cl) := by rw [cells_at ((hKa.block bl hbl (by simpa using hbln.out)).trans hL.out), qc_get q m h4, eq.out]
         have cnk : wa.cell? ⟨w.heap.size + 2, m, none⟩ = some (.int .i64 (k : Int)) := by rw [cells_at hNa, nc_get _ m h4, lessN_self, hk.out]; simp
         have hila' : bq ≠ w.heap.size + 2 := hila (by rw [nats_len]; omega) bq oq none rfl
         have cqk : wa.cell? ⟨bq, oq + k, none⟩ = some (.int .i64 i) := (World.cell?_of_block (hKa.block bq hbq (by simpa using hila'))).trans (hcq.out k i hqk.out)
         obtain ⟨x0, x1, x2, x3, x4, x5⟩ := (hpW.out.past hKa hpb.out).six hpi.out
         have n0 := World.new_ne wa _ c40
         have n1 := World.new_ne wa _ cl1
         have n2 := World.new_ne wa _ cnk
         have n3 := World.new_ne wa _ cqk
         have m0 := World.new_ne wa _ x0
         have m1 := World.new_ne wa _ x1
         have m2 := World.new_ne wa _ x2
         have m3 := World.new_ne wa _ x3
         have m4 := World.new_ne wa _ x4
         have m5 := World.new_ne wa _ x5
         have hkl2 : (k : Int) < ((xs m).length : Int) := by omega
         have hiL2 : (i : Int) < (l.length : Int) := by omega
         replace hNa := Lib.hid hNa
         replace hXa := Lib.hid hXa
         replace hila := Lib.hid hila
         replace hil := Lib.hid hil
         go_cut [9] (fun s9 wx => ∃ gx : Nat, s9 = .pointer (some ⟨gx, 0, none⟩) ∧ wa.heap.size ≤ gx ∧ wx.heap[gx]? = some (.cells (pc p) 70 (0, 0)) ∧ Below wa.heap.size wa wx)
         case first =>
          go_region_held3 (fun w' => w'.cell? ⟨w.heap.size, 40, none⟩ = some (.slice (some ⟨bp, op, none⟩) l.length cap) ∧ w'.cell? ⟨bl, m, none⟩ = some (.slice (some ⟨bq, oq, none⟩) (xs m).length cl) ∧ w'.cell? ⟨w.heap.size + 2, m, none⟩ = some (.int .i64 (k : Int)) ∧ w'.cell? ⟨bq, oq + k, none⟩ = some (.int .i64 i) ∧ w'.cell? ⟨bp, op + i * 6, none⟩ = some (.int .i64 p.frm) ∧ w'.cell? ⟨bp, op + i * 6 + 1, none⟩ = some (.int .i64 p.to) ∧ w'.cell? ⟨bp, op + i * 6 + 2, none⟩ = some (.int .i64 p.amt) ∧ w'.cell? ⟨bp, op + i * 6 + 3, none⟩ = some (.int .i64 p.cls) ∧ w'.cell? ⟨bp, op + i * 6 + 4, none⟩ = some (.int .i64 p.st) ∧ w'.cell? ⟨bp, op + i * 6 + 5, none⟩ = some (.int .i64 p.seq)) (go_keep) (fail)
          all_goals
           go_wp2_with fail
           go_meet
           case rel => exact ⟨_, rfl, Nat.le_refl _, hnew wa (.cells (pc p) 70), ((Below.refl _ _).alloc (Nat.le_refl _) _).drew⟩
         case rest =>
          obtain ⟨gx, rfl, hgxl, hgx, hbw⟩ := hcut
          have hKb := grown_below hKa hbw
          have hNb := hkeep hbw hNa.out
          have hXb := hkeep hbw hXa.out
          have hBb := bstep hBa hBa.size hbw
          have hgb1 : gx ≠ bx := by have := hlt hXa.out; omega
          have hgb2 : w.heap.size ≤ gx := by have := hBa.size; omega
          clear x0 x1 x2 x3 x4 x5 c40 cl1 cnk cqk n0 n1 n2 n3 m0 m1 m2 m3 m4 m5 hbw hKa hNa hXa hBa
          have hX := hXb
          have hP := hgx
          have hNm := hNb
          have hKm := hKb
          have hBm := hBb
          clear hXb hgx hNb hKb hBb
          have hcX1 := cells_at hX
          have hfX1 := frozenAt hX
          have hcP1 := cells_at hP
          have gX := hsetSame (i := p.frm.toNat * 2) hX (.int .i64 (X.has p.frm + p.amt))
          rw [hc_setHas _ _ _ _ f0 f1] at gX
          have gP := hsetOther (g := bx) (i := p.frm.toNat * 2) hP hgb1 (.int .i64 (X.has p.frm + p.amt))
          have gN := hsetOther (g := bx) (i := p.frm.toNat * 2) hNm (Ne.symm hbxn) (.int .i64 (X.has p.frm + p.amt))
          have gK := grown_set2 (x := bx) (i := p.frm.toNat * 2) hKm hbx.out (.int .i64 (X.has p.frm + p.amt))
          have gB := hBm.setCell (p := ⟨bx, p.frm.toNat * 2, none⟩) (by have := hbx.out; have := hbn; show w.heap.size ≤ bx; omega) (.int .i64 (X.has p.frm + p.amt))
          replace hX := Lib.hid hX
          replace hP := Lib.hid hP
          replace hNm := Lib.hid hNm
          replace hKm := Lib.hid hKm
          replace hBm := Lib.hid hBm
          replace gX := Lib.hid gX
          replace gP := Lib.hid gP
          replace gN := Lib.hid gN
          replace gK := Lib.hid gK
          replace gB := Lib.hid gB
          go_upto_region 20 with fail
          go_cut [59] (fun _ wx => wx.heap[bx]? = some (.cells (hc (X.setHas p.frm (X.has p.frm + p.amt)) (.slice (some ⟨bp, op, none⟩) l.length cap)) 29 (0, 0)) ∧ wx.heap[gx]? = some (.cells (pc p) 70 (0, 0)) ∧ W.grownBy wx (some (w.heap.size + 2)) ∧ wx.heap[w.heap.size + 2]? = some (.cells (nc fun b => (lessN N (m : Int) (b : Int) : Int)) 25 (0, 0)) ∧ Below w.heap.size w wx)
          case first =>
           go_region
           all_goals
            go_wp2_with fail
            go_meet
            case rel => exact ⟨gX.out, gP.out, ⟨gK.out.os, gK.out.tape, gK.out.output, gK.out.size, gK.out.block⟩, gN.out, gB.out.drew⟩
          case rest =>
           clear hcX1 hfX1 hcP1 hX hP hNm hKm hBm gX gP gN gK gB
           obtain ⟨hX, hP, hKm, hNm, hBm⟩ := hcut
           obtain ⟨Y1, hY1⟩ : ∃ Y1, X.setHas p.frm (X.has p.frm + p.amt) = Y1 := ⟨_, rfl⟩
           have y1t : Y1.has p.to = X.has p.to := by rw [← hY1]; exact setHas_ne X p.frm _ p.to hftb
           have y1s : Y1.sent = X.sent := by rw [← hY1]; rfl
           rw [hY1] at hX
           have rt1 : -4611686018427387904 ≤ Y1.has p.to ∧ Y1.has p.to ≤ 4611686018427387904 := by rw [y1t]; exact rt
           replace hY1 := Lib.hid hY1
           replace y1t := Lib.hid y1t
           replace y1s := Lib.hid y1s
           have hcX2 := cells_at hX
           have hfX2 := frozenAt hX
           have hcP2 := cells_at hP
           have gX := hsetSame (i := p.to.toNat * 2) hX (.int .i64 (Y1.has p.to - p.amt))
           rw [hc_setHas _ _ _ _ t0 t1] at gX
           have gP := hsetOther (g := bx) (i := p.to.toNat * 2) hP hgb1 (.int .i64 (Y1.has p.to - p.amt))
           have gN := hsetOther (g := bx) (i := p.to.toNat * 2) hNm (Ne.symm hbxn) (.int .i64 (Y1.has p.to - p.amt))
           have gK := grown_set2 (x := bx) (i := p.to.toNat * 2) hKm hbx.out (.int .i64 (Y1.has p.to - p.amt))
           have gB := hBm.setCell (p := ⟨bx, p.to.toNat * 2, none⟩) (by have := hbx.out; have := hbn; show w.heap.size ≤ bx; omega) (.int .i64 (Y1.has p.to - p.amt))
           replace hX := Lib.hid hX
           replace hP := Lib.hid hP
           replace hNm := Lib.hid hNm
           replace hKm := Lib.hid hKm
           replace hBm := Lib.hid hBm
           replace gX := Lib.hid gX
           replace gP := Lib.hid gP
           replace gN := Lib.hid gN
           replace gK := Lib.hid gK
           replace gB := Lib.hid gB
           go_upto_region 21 with fail
           go_cut [71] (fun _ wx => wx.heap[bx]? = some (.cells (hc (Y1.setHas p.to (Y1.has p.to - p.amt)) (.slice (some ⟨bp, op, none⟩) l.length cap)) 29 (0, 0)) ∧ wx.heap[gx]? = some (.cells (pc p) 70 (0, 0)) ∧ W.grownBy wx (some (w.heap.size + 2)) ∧ wx.heap[w.heap.size + 2]? = some (.cells (nc fun b => (lessN N (m : Int) (b : Int) : Int)) 25 (0, 0)) ∧ Below w.heap.size w wx)
           case first =>
            go_region
            all_goals
             go_wp2_with fail
             go_meet
             case rel => exact ⟨gX.out, gP.out, ⟨gK.out.os, gK.out.tape, gK.out.output, gK.out.size, gK.out.block⟩, gN.out, gB.out.drew⟩
           case rest =>
            clear hcX2 hfX2 hcP2 hX hP hNm hKm hBm gX gP gN gK gB
            obtain ⟨hX, hP, hKm, hNm, hBm⟩ := hcut
            obtain ⟨Y2, hY2⟩ : ∃ Y2, Y1.setHas p.to (Y1.has p.to - p.amt) = Y2 := ⟨_, rfl⟩
            have y2s : Y2.sent = X.sent := by rw [← hY2]; exact y1s.out
            rw [hY2] at hX
            have rs1 : 0 ≤ Y2.sent p.frm p.to ∧ Y2.sent p.frm p.to ≤ 4611686018427386904 := by rw [y2s]; exact rs
            replace hY2 := Lib.hid hY2
            replace y2s := Lib.hid y2s
            have hcX3 := cells_at hX
            have hfX3 := frozenAt hX
            have hcP3 := cells_at hP
            have gX := hsetSame (i := 8 + p.frm.toNat * 4 + p.to.toNat) hX (.int .i64 (Y2.sent p.frm p.to - p.amt))
            rw [hc_setSent _ _ _ _ _ f0 f1 t0 t1] at gX
            have gP := hsetOther (g := bx) (i := 8 + p.frm.toNat * 4 + p.to.toNat) hP hgb1 (.int .i64 (Y2.sent p.frm p.to - p.amt))
            have gN := hsetOther (g := bx) (i := 8 + p.frm.toNat * 4 + p.to.toNat) hNm (Ne.symm hbxn) (.int .i64 (Y2.sent p.frm p.to - p.amt))
            have gK := grown_set2 (x := bx) (i := 8 + p.frm.toNat * 4 + p.to.toNat) hKm hbx.out (.int .i64 (Y2.sent p.frm p.to - p.amt))
            have gB := hBm.setCell (p := ⟨bx, 8 + p.frm.toNat * 4 + p.to.toNat, none⟩) (by have := hbx.out; have := hbn; show w.heap.size ≤ bx; omega) (.int .i64 (Y2.sent p.frm p.to - p.amt))
            replace hX := Lib.hid hX
            replace hP := Lib.hid hP
            replace hNm := Lib.hid hNm
            replace hKm := Lib.hid hKm
            replace hBm := Lib.hid hBm
            replace gX := Lib.hid gX
            replace gP := Lib.hid gP
            replace gN := Lib.hid gN
            replace gK := Lib.hid gK
            replace gB := Lib.hid gB
            go_upto_region 22 with fail
            go_cut [83] (fun _ wx => wx.heap[bx]? = some (.cells (hc (Y2.setSent p.frm p.to (Y2.sent p.frm p.to - p.amt)) (.slice (some ⟨bp, op, none⟩) l.length cap)) 29 (0, 0)) ∧ wx.heap[gx]? = some (.cells (pc p) 70 (0, 0)) ∧ W.grownBy wx (some (w.heap.size + 2)) ∧ wx.heap[w.heap.size + 2]? = some (.cells (nc fun b => (lessN N (m : Int) (b : Int) : Int)) 25 (0, 0)) ∧ Below w.heap.size w wx)
            case first =>
             go_region
             all_goals
              go_wp2_with fail
              go_meet
              case rel => exact ⟨gX.out, gP.out, ⟨gK.out.os, gK.out.tape, gK.out.output, gK.out.size, gK.out.block⟩, gN.out, gB.out.drew⟩
            case rest =>
             clear hcX3 hfX3 hcP3 hX hP hNm hKm hBm gX gP gN gK gB
             obtain ⟨hX, hP, hKm, hNm, hBm⟩ := hcut
             rw [show Y2.setSent p.frm p.to (Y2.sent p.frm p.to - p.amt) = (((X.setHas p.frm (X.has p.frm + p.amt)).setHas p.to (X.has p.to - p.amt)).setSent p.frm p.to (X.sent p.frm p.to - p.amt)) from by rw [y2s.out, ← hY2.out, y1t.out, ← hY1.out], hless.out] at hX
             have hs1 := hsum.out
             have hlt0 : sumN (lessN N (m : Int)) < S0 := by omega
             replace hX := Lib.hid hX
             replace hP := Lib.hid hP
             replace hNm := Lib.hid hNm
             replace hKm := Lib.hid hKm
             replace hBm := Lib.hid hBm
             go_wp2_with fail
             go_roundg (sumN (lessN N (m : Int)))
             case measure => omega
             case rel => exact ⟨lessN N (m : Int), true, rfl, rfl, hup2.out, by omega, fun _ => hlt0, (fun e => by cases e), hKm.out, hNm.out, hX.out, hBm.out⟩
        ·have hfm := hff.1 hf
         have cF : ∀ s w, Calls Try.prog 49 #[.agg (hc X s), .int .i64 m, .int .i64 (N (m : Int) : Int)] w fun e w' => e = .returned (.bool true) ∧ Below w.heap.size w w' := fun s w => by rw [← hf]; exact fine_any X s m _ w h4 hroom
         replace cF := Lib.hid cF
         replace hf := Lib.hid hf
         replace hff := Lib.hid hff
         replace hfm := Lib.hid hfm
         replace hup := Lib.hid hup
         replace hbt := Lib.hid hbt
         replace hfi := Lib.hid hfi
         go_upto_region 17 with fail
         refine calm_region (Below wo.heap.size wo) (by kernel_rfl) (by kernel_rfl) (calm_start wo) ?_
         repeat (first | go_big_quiet_skip | (go_big_quiet_want; first | (refine calm_row 29 _ rfl _ rfl _ _ _ _ (calm_heap hX) Try.underlying29 rfl info30 ?_; (try simp only [Act.put]); (try simp only [List.setIfInBounds_toArray]); (try simp only [List.set_cons_succ]); (try simp only [List.set_cons_zero]); go_big_quiet_on) | (go_big_quiet_op; first | go_big_quiet_on | go_big_quiet_call (first | (go_at_call 49; exact calm_call (calm_below _) (cF.out _ _))))))
         refine wpQuiet_nil ?_
         intro w8 hI
         have hK8 := grown_below hK hI
         have hN8 := hkeep hI hN
         have hX8 := hkeep hI hX
         have hB8 := bstep hB hB.size hI
         rw [← hXe] at hX8
         clear hcx hnx hK hN hX hB
         replace hXe := Lib.hid hXe
         go_wp2_with fail
         go_roundg (4 - (m + 1))
         case measure => omega
         case rel =>
          refine ⟨m + 1, N, b, by omega, rfl, by go_num, rfl, hup.out, hle, hbt.out, fun hb c hc => ?_, hK8, hN8, hX8, hB8⟩
          by_cases e : c = m
          ·subst e; exact hfm.out
          ·exact hfi.out hb c (by omega)
      ·obtain rfl : m = 4 := by omega
       have hbm : 2 * sumN N + (if b = true then 1 else 0) < 2 * S0 + 1 := by
        cases b with
        | true => have := hbt rfl; simp; omega
        | false => simp; omega
       replace hbm := Lib.hid hbm
       replace hup := Lib.hid hup
       replace hfi := Lib.hid hfi
       replace hbt := Lib.hid hbt
       go_wp2_with fail
       go_roundg (2 * sumN N + (if b = true then 1 else 0))
       case measure => have h5 := hgg.out; simp only [if_true] at h5; rw [h5]; exact hbm.out
       case rel => exact ⟨N, b, rfl, rfl, hup.out, hfi.out, hK, hN, hX, hB⟩
end Go.Proofs.Ytggfdkkhlokmlab


