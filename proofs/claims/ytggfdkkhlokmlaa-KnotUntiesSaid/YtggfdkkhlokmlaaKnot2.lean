/- knot.after. -/
import Derived.Test.YtggfdkkhlokmlaaKnot1
import Derived.Deep.Cut
import Derived.BigQuiet
namespace Go.Proofs.Ytggfdkkhlokmlaa
open Go.RowKit
attribute [local go_sem] hc_pays hc_next hc_size pc_0 pc_1 pc_2 pc_3 pc_4 pc_5
/-- Four ints. -/
def nc (n : Nat → Int) : Array Value := #[.int .i64 (n 0), .int .i64 (n 1), .int .i64 (n 2), .int .i64 (n 3)]
theorem nc_get (n : Nat → Int) (m : Nat) (h : m < 4) : (nc n)[m]? = some (.int .i64 (n m)) := by
  match m, h with
  | 0, _ => rfl
  | 1, _ => rfl
  | 2, _ => rfl
  | 3, _ => rfl
theorem nc_set (n : Nat → Int) (m : Nat) (v : Int) (h : m < 4) : (nc n).setIfInBounds m (.int .i64 v) = nc (fun b => if b = m then v else n b) := by
  match m, h with
  | 0, _ => rfl
  | 1, _ => rfl
  | 2, _ => rfl
  | 3, _ => rfl
theorem nc_one (n : Nat → Int) : (nc n).all (·.oneCell') = true := by
  have hi : ∀ k n, (Value.int k n).oneCell' = true := fun _ _ => rfl
  simp [nc, hi]
/-- The first n of each list, list by list. -/
def fst4 (xs : Nat → List Nat) (n : Nat → Nat) : Nat → List Nat
  | 0 => []
  | k + 1 => fst4 xs n k ++ (xs k).take (n k)
/-- A list of indexes that lies in memory. -/
def QAt (w : World) (v : Value) (xs : List Nat) : Prop := ∃ a cap, v = .slice a xs.length cap ∧ IntsAt w a cap (nats xs)
theorem OwnInts.qat {w : World} {base : Nat} {v : Value} {xs : List Nat} (h : OwnInts w base v (nats xs)) : QAt w v xs := by
  obtain ⟨a, cap, e, hi, _⟩ := h.at_
  rw [nats_len] at e
  exact ⟨a, cap, e, hi⟩
theorem QAt.below {w w' : World} {v : Value} {xs : List Nat} (h : QAt w v xs) (hb : Below w.heap.size w w') : QAt w' v xs :=
  let ⟨a, cap, e, hi⟩ := h; ⟨a, cap, e, hi.below hb⟩
theorem fst4_len {xs : Nat → List Nat} {n : Nat → Nat} {N : Nat} (h : ∀ b, b < 4 → (xs b).length ≤ N) : ∀ k, k ≤ 4 → (fst4 xs n k).length ≤ k * N
  | 0, _ => by simp [fst4]
  | k + 1, hk => by
    have ih := fst4_len (n := n) h k (by omega)
    have := h k (by omega)
    have h2 : ((xs k).take (n k)).length ≤ N := by rw [List.length_take]; omega
    simp only [fst4, List.length_append]
    rw [Nat.add_mul]; omega
theorem moves_snoc (l : List Pay) (A : List Nat) (ys : List Nat) (j i : Nat) (h : Hs) (hj : ys[j]? = some i) : moves l (A ++ ys.take (j + 1)) h = (moves l (A ++ ys.take j) h).move (payAt l i).frm (payAt l i).to (payAt l i).amt := by
  rw [List.take_add_one, hj]
  show moves l (A ++ (ys.take j ++ [i])) h = _
  rw [← List.append_assoc, moves_app]
  rfl
set_option maxRecDepth 100000 in
set_option maxHeartbeats 4000000 in
theorem after_any (h : Hs) (l : List Pay) (a : Option Addr) (cap : Nat) (q : Nat → Value) (xs : Nat → List Nat) (n : Nat → Nat) (w : World) (hp : PaysAt w a cap l) (hq : ∀ b, b < 4 → QAt w (q b) (xs b)) (hn : ∀ b, b < 4 → n b ≤ (xs b).length)
    (hx : ∀ b, b < 4 → (xs b).length ≤ l.length ∧ ∀ i ∈ xs b, i < l.length) (hnear : Near h 0) (hlen : l.length ≤ 24) :
    Calls Try.prog 81 #[.agg (hc h (.slice a l.length cap)), .agg (qc q), .agg (nc fun b => (n b : Int))] w fun e w' => e = .returned (.agg (hc (moves l (fst4 xs n 4) h) (.slice a l.length cap))) ∧ Below w.heap.size w w' := by
  have hroom : ∀ m j, m < 4 → (moves l (fst4 xs n m ++ (xs m).take j) h).Room := fun m j hm => by
    have h1 := Near.moves (l := l) (fst4 xs n m ++ (xs m).take j) hnear (by omega)
    refine h1.room ?_
    have h2 := fst4_len (xs := xs) (n := n) (fun b hb => (hx b hb).1) m (by omega)
    have h3 := (hx m hm).1
    have h5 : m * l.length ≤ 4 * l.length := Nat.mul_le_mul_right _ (by omega)
    rw [List.length_append, List.length_take]
    omega
  have hone : (Value.slice a l.length cap).oneCell' = true := rfl
  have hml : (l.length : Int) ≤ 9223372036854775807 := by omega
  replace hp := Lib.hid hp
  replace hq := Lib.hid hq
  replace hn := Lib.hid hn
  replace hx := Lib.hid hx
  replace hroom := Lib.hid hroom
  go_enter Try.func81, Try.ntmps81
  go_upto_region 1 with fail
  generalize hW : World.alloc (World.alloc (World.alloc (World.alloc w _) _) _) _ = W0
  have hgA : W0.heap[w.heap.size]? = some (.cells (hc h (.slice a l.length cap)) 30 (0, 0)) := by rw [← hW]; exact hold (hold (heap_alloc2_old w _ _) _) _
  have hgL : W0.heap[w.heap.size + 1]? = some (.cells (qc q) 93 (0, 0)) := by rw [← hW]; exact hold (hold (heap_alloc2_new w _ _) _) _
  have hgN : W0.heap[w.heap.size + 2]? = some (.cells (nc fun b => (n b : Int)) 26 (0, 0)) := by
    rw [← hW]
    have := hnew (World.alloc (World.alloc w (.cells (hc h (.slice a l.length cap)) 30)) (.cells (qc q) 93)) (.cells (nc fun b => (n b : Int)) 26)
    rw [alloc_sz, alloc_sz] at this
    exact hold this _
  have hgZ : W0.heap[w.heap.size + 3]? = some (.cells (hc Hs.zero (.slice none 0 0)) 30 (0, 0)) := by
    rw [← hW]
    have := hnew (World.alloc (World.alloc (World.alloc w (.cells (hc h (.slice a l.length cap)) 30)) (.cells (qc q) 93)) (.cells (nc fun b => (n b : Int)) 26)) (.cells (hc Hs.zero (.slice none 0 0)) 30)
    rw [alloc_sz, alloc_sz, alloc_sz] at this
    exact this
  have hB : Below w.heap.size w W0 := by rw [← hW]; exact ((((Below.refl w.heap.size w).alloc (Nat.le_refl _) _).alloc (by simp) _).alloc (by simp; omega) _).alloc (by simp; omega) _
  clear hW
  go_wp2_with fail
  go_loopg [11] 4 (fun g s11 wr => ∃ m : Nat, m ≤ 4 ∧ g = 4 - m ∧ s11 = .int .i64 m ∧ wr.heap[w.heap.size]? = some (.cells (hc (moves l (fst4 xs n m) h) (.slice a l.length cap)) 30 (0, 0)) ∧ wr.heap[w.heap.size + 1]? = some (.cells (qc q) 93 (0, 0)) ∧ wr.heap[w.heap.size + 2]? = some (.cells (nc fun b => (n b : Int)) 26 (0, 0)) ∧ wr.heap[w.heap.size + 3]? = some (.cells (hc Hs.zero (.slice none 0 0)) 30 (0, 0)) ∧ Below w.heap.size w wr)
  case atStart => exact ⟨0, by omega, rfl, rfl, hgA, hgL, hgN, hgZ, hB⟩
  case round =>
    clear hgA hgL hgN hgZ hB
    obtain ⟨m, hm, rfl, rfl, hgA, hgL, hgN, hgZ, hB⟩ := hrel
    by_cases h4 : m < 4
    · have h4d : decide ((m : Int) < 4) = true := decide_eq_true (by omega)
      have hm0 : (m : Int) < 4 := by omega
      obtain ⟨al, cl, eq, hil⟩ := (hq.out m h4).below hB
      have hnm := hn.out m h4
      have hle := hil.le
      have hcm := hil.capm
      rw [nats_len] at hle
      have cL : wr.cell? ⟨w.heap.size + 1, m, none⟩ = some (.slice al (xs m).length cl) := by rw [cells_at hgL, qc_get q m h4, eq]
      have cN : wr.cell? ⟨w.heap.size + 2, m, none⟩ = some (.int .i64 (n m : Int)) := by rw [cells_at hgN, nc_get _ m h4]
      have hn0 : (0 : Int) ≤ (n m : Int) := by omega
      have hnc : (n m : Int) ≤ (cl : Int) := by omega
      have hcl : (cl : Int) ≤ 9223372036854775807 := by unfold maxLen at hcm; omega
      have hBn : ∀ q, Below w.heap.size w (wr.drewN q) := fun q => below_drewN hB q
      have hgAn : ∀ q, (wr.drewN q).heap[w.heap.size]? = some (.cells (hc (moves l (fst4 xs n m) h) (.slice a l.length cap)) 30 (0, 0)) := fun q => hgA
      have hrow : 0 < n m → ∃ b o, al = some ⟨b, o, none⟩ ∧ b < w.heap.size ∧ ∀ j i : Nat, (xs m)[j]? = some i → w.cell? ⟨b, o + j, none⟩ = some (.int .i64 (i : Int)) := fun h0 => by
        obtain ⟨a2, c2, e2, hi2⟩ := hq.out m h4
        rw [eq] at e2
        simp only [Value.slice.injEq] at e2
        obtain ⟨rfl, _, rfl⟩ := e2
        obtain ⟨b, o, e3, hb, hc⟩ := hi2.row (by rw [nats_len]; omega)
        exact ⟨b, o, e3, hb, fun j i hj => hc j i (by simp [nats, hj])⟩
      have hnil : al = none → n m = 0 := fun e => by have := hil.nil0 e; omega
      replace eq := Lib.hid eq
      replace hBn := Lib.hid hBn
      replace hgL := Lib.hid hgL
      replace hgN := Lib.hid hgN
      replace hgZ := Lib.hid hgZ
      replace hgA := Lib.hid hgA
      replace hil := Lib.hid hil
      replace hrow := Lib.hid hrow
      replace hnil := Lib.hid hnil
      clear hgAn
      go_upto_region 4 with fail
      go_cut [20, 21, 22] (fun s20 s21 s22 wx => s21 = .int .i64 (n m : Int) ∧ s22 = .int .i64 0 ∧ (0 < n m → ∃ b o c, s20 = .slice (some ⟨b, o, none⟩) (n m) c ∧ b < w.heap.size ∧ ∀ j i : Nat, (xs m)[j]? = some i → w.cell? ⟨b, o + j, none⟩ = some (.int .i64 (i : Int))) ∧ wx.heap[w.heap.size]? = some (.cells (hc (moves l (fst4 xs n m) h) (.slice a l.length cap)) 30 (0, 0)) ∧ wx.heap[w.heap.size + 1]? = some (.cells (qc q) 93 (0, 0)) ∧ wx.heap[w.heap.size + 2]? = some (.cells (nc fun b => (n b : Int)) 26 (0, 0)) ∧ wx.heap[w.heap.size + 3]? = some (.cells (hc Hs.zero (.slice none 0 0)) 30 (0, 0)) ∧ Below w.heap.size w wx)
      case first =>
        cases al with
        | none =>
          obtain h0 := hnil.out rfl
          have hcl0 : cl = 0 := hil.out.nil0 rfl
          have hl0 : (xs m).length = 0 := by omega
          rw [h0] at cN
          rw [hl0] at cL
          subst hcl0
          clear hn0 hnc hnm hle
          go_big_quiet (fail)
          go_wp2_with fail
          go_meet
          case rel => exact ⟨by rw [h0]; rfl, rfl, fun h => by omega, hgA.out, hgL.out, hgN.out, hgZ.out, hBn.out _⟩
        | some ad =>
          go_big_quiet (fail)
          go_wp2_with fail
          go_meet
          case rel =>
            exact ⟨rfl, rfl, fun h => by
              obtain ⟨b, o, e, hb, hc⟩ := hrow.out h
              cases e
              exact ⟨b, o, _, rfl, hb, hc⟩, hgA.out, hgL.out, hgN.out, hgZ.out, hBn.out _⟩
      case rest =>
        clear cL cN
        obtain ⟨rfl, rfl, hls, gA, gL, gN, gZ, hBc⟩ := hcut
        replace hls := Lib.hid hls
        have hnm0 : (n m : Int) ≤ 9223372036854775807 := by omega
        go_wp2_with fail
        go_loopg [22] (n m) (fun g s22 wx => ∃ j : Nat, j ≤ n m ∧ g = n m - j ∧ s22 = .int .i64 j ∧ wx.heap[w.heap.size]? = some (.cells (hc (moves l (fst4 xs n m ++ (xs m).take j) h) (.slice a l.length cap)) 30 (0, 0)) ∧ wx.heap[w.heap.size + 1]? = some (.cells (qc q) 93 (0, 0)) ∧ wx.heap[w.heap.size + 2]? = some (.cells (nc fun b => (n b : Int)) 26 (0, 0)) ∧ wx.heap[w.heap.size + 3]? = some (.cells (hc Hs.zero (.slice none 0 0)) 30 (0, 0)) ∧ Below w.heap.size w wx)
        case atStart => exact ⟨0, by omega, rfl, rfl, by simpa using gA, gL, gN, gZ, hBc⟩
        case round =>
          clear gA gL gN gZ hBc hgA hgL hgN hgZ hB hBn hil
          obtain ⟨j, hj, rfl, rfl, hgA, hgL, hgN, hgZ, hB⟩ := hrel
          by_cases h6 : j < n m
          · obtain ⟨b, o, c, rfl, hbl, hcc⟩ := hls.out (by omega)
            obtain ⟨i, hji⟩ : ∃ i, (xs m)[j]? = some i := ⟨(xs m)[j], List.getElem?_eq_getElem (by omega)⟩
            have hcell := (hB.cell (p := ⟨b, o + j, none⟩) hbl).trans (hcc j i hji)
            have hiL := (hx.out m h4).2 i (List.mem_of_getElem? hji)
            have hpi := payAt_get hiL
            have hsn := moves_snoc l (fst4 xs n m) (xs m) j i h hji
            have hrj := hroom.out m j h4
            obtain ⟨p, ep⟩ : ∃ p, payAt l i = p := ⟨_, rfl⟩
            rw [ep] at hpi hsn
            obtain ⟨Y, hY⟩ : ∃ Y, moves l (fst4 xs n m ++ (xs m).take j) h = Y := ⟨_, rfl⟩
            rw [hY] at hgA hsn hrj
            obtain ⟨bp, op, rfl, hbp, hcp0⟩ := hp.out.row (by omega)
            have hcp : ∀ k v, (pc p)[k]? = some v → wr.cell? ⟨bp, op + i * 6 + k, none⟩ = some v := fun k v hv => by rw [Nat.add_assoc]; exact (hB.cell (p := ⟨bp, _, none⟩) hbp).trans (hcp0 i p hpi k v hv)
            have hcA := cells_at hgA
            have hji2 : (j : Int) < (n m : Int) := by omega
            have hiL2 : (i : Int) < (l.length : Int) := by omega
            have h6d : decide ((j : Int) < (n m : Int)) = true := decide_eq_true hji2
            have hqn := hnew wr (.cells (pc p) 36)
            have hA1 := hold hgA (.cells (pc p) 36)
            have hcq := cells_at hqn
            have hBa := hB.alloc hB.size (.cells (pc p) 36)
            have hgL1 := Lib.hid (hold hgL (.cells (pc p) 36))
            have hgN1 := Lib.hid (hold hgN (.cells (pc p) 36))
            have hgZ1 := Lib.hid (hold hgZ (.cells (pc p) 36))
            clear hcc hcp0
            replace hcp := Lib.hid hcp
            replace hji := Lib.hid hji
            replace hpi := Lib.hid hpi
            replace hsn := Lib.hid hsn
            replace ep := Lib.hid ep
            replace hY := Lib.hid hY
            replace hgL := Lib.hid hgL
            replace hgN := Lib.hid hgN
            replace hgZ := Lib.hid hgZ
            replace hgA := Lib.hid hgA
            replace hqn := Lib.hid hqn
            replace hA1 := Lib.hid hA1
            go_wp2_with (first | go_skip | (refine ld_cells 36 _ rfl rfl bp (op + i * 6) rfl (pc p) _ Try.underlying36 rfl info36 hcp.out ?_) | (refine st_new 36 _ _ rfl _ 36 _ rfl rfl rfl _ rfl info36 rfl (pc_one p) ?_) | (refine ld_row 30 _ rfl rfl _ rfl _ _ _ _ hA1.out Try.underlying30 rfl info30 ?_) | (go_at_call 29; refine (move_any Y _ p.frm p.to p.amt _ hrj rfl).mono ?_; rintro e w1 ⟨rfl, hb1⟩) | (refine st_row 30 _ _ rfl rfl _ rfl _ rfl _ _ (hkeep hb1 hA1.out) info30 rfl (hc_one _ _ rfl) ?_; intro w2 hr2 hgr2 hsz2))
            have hB1 := hBa.trans (hb1.mono hBa.size)
            go_roundg (n m - (j + 1))
            case measure => omega
            case rel =>
              refine ⟨j + 1, by omega, rfl, by go_num, by rw [hsn.out]; exact hr2, ?_, ?_, ?_, ?_⟩
              · exact (hgr2.block _ (hlt (hkeep hb1 hgL1.out)) (by simp)).trans (hkeep hb1 hgL1.out)
              · exact (hgr2.block _ (hlt (hkeep hb1 hgN1.out)) (by simp)).trans (hkeep hb1 hgN1.out)
              · exact (hgr2.block _ (hlt (hkeep hb1 hgZ1.out)) (by simp)).trans (hkeep hb1 hgZ1.out)
              · exact hB1.grown hgr2 hB1.size fun x hx => by cases hx; exact Nat.le_refl _
          · have h6d : decide ((j : Int) < (n m : Int)) = false := decide_eq_false (by omega)
            have hjn : j = n m := by omega
            rw [hjn] at hgA
            replace hjn := Lib.hid hjn
            go_wp2_with fail
            go_roundg (4 - (m + 1))
            case measure => omega
            case rel => exact ⟨m + 1, by omega, rfl, by go_num, hgA, hgL, hgN, hgZ, hB⟩
    · obtain rfl : m = 4 := by omega
      go_wp2_with (first | go_skip | (refine ld_row 30 _ rfl rfl _ rfl _ _ _ _ hgA Try.underlying30 rfl info30 ?_) | (refine st_row 30 _ _ rfl rfl _ rfl _ rfl _ _ hgZ info30 rfl (hc_one _ _ rfl) ?_; intro w5 hr5 hgr5 hsz5))
      refine bodyPost_ret (results_house rfl _ _ _ _ _ rfl hr5) rfl ⟨rfl, ?_⟩
      exact hB.grown hgr5 hB.size fun k hk => by cases hk; omega
end Go.Proofs.Ytggfdkkhlokmlaa
