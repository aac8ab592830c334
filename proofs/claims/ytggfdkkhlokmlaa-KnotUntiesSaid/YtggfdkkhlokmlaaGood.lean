/- ledger.Good and the reference's IsHouse. -/
import Derived.Test.YtggfdkkhlokmlaaNew
namespace Go.Proofs.Ytggfdkkhlokmlaa
open Go.RowKit

structure CellOk (h : Hs) (i k : Int) : Prop where
  s : sm 0 (h.sent i k) 1099511627776 = true
  l : sm (-1) (h.lim i k) 1000000 = true
  d : i = k → h.sent i k = 0
structure BankOk (h : Hs) (i : Int) : Prop where
  has : sm (-1099511627776) (h.has i) 1099511627776 = true
  cr : sm 0 (h.cr i) 1000000 = true
  cells : ∀ k : Int, 0 ≤ k → k < 4 → CellOk h i k
/-- A house is one (P1.3). -/
structure GoodP (h : Hs) (l : List Pay) : Prop where
  len : l.length ≤ 24
  next : sm 0 h.next 1048576 = true
  banks : ∀ i : Int, 0 ≤ i → i < 4 → BankOk h i
  pays : ∀ p ∈ l, goodPay p = true ∧ p.seq < h.next
  nodup : (l.map (·.seq)).Nodup
open Classical in
noncomputable def goodB (h : Hs) (l : List Pay) : Bool := decide (GoodP h l)
theorem goodB_no {h : Hs} {l : List Pay} (hn : ¬ GoodP h l) : goodB h l = false := by simp [goodB, hn]
theorem goodB_yes {h : Hs} {l : List Pay} (hn : GoodP h l) : goodB h l = true := by simp [goodB, hn]
theorem goodB_true {h : Hs} {l : List Pay} (hn : goodB h l = true) : GoodP h l := by simpa [goodB] using hn
theorem goodB_false {h : Hs} {l : List Pay} (hn : goodB h l = false) : ¬ GoodP h l := by simpa [goodB] using hn

theorem GoodP.room {h : Hs} {l : List Pay} (g : GoodP h l) : h.Room where
  has := fun i h0 h1 => by have := sm_true (g.banks i h0 h1).has; omega
  cr := fun i h0 h1 => sm_true (g.banks i h0 h1).cr
  sent := fun i k h0 h1 k0 k1 => by have := sm_true ((g.banks i h0 h1).cells k k0 k1).s; omega

theorem seq_fresh {l : List Pay} (hn : (l.map (·.seq)).Nodup) {m : Nat} {p : Pay} (hp : l[m]? = some p) : p.seq ∉ (l.take m).map (·.seq) := by
  intro hm
  obtain ⟨hlt, hpe⟩ := List.getElem?_eq_some_iff.1 hp
  have h2 : l.map (·.seq) = (l.take m).map (·.seq) ++ (l.drop m).map (·.seq) := by rw [← List.map_append, List.take_append_drop]
  rw [h2, List.nodup_append] at hn
  refine hn.2.2 _ hm _ ?_ rfl
  rw [List.drop_eq_getElem_cons hlt, hpe]
  simp
theorem take_snoc {α : Type} {l : List α} {m : Nat} {p : α} (hp : l[m]? = some p) : l.take (m + 1) = l.take m ++ [p] := by
  obtain ⟨hlt, hpe⟩ := List.getElem?_eq_some_iff.1 hp
  rw [List.take_succ_eq_append_getElem hlt, hpe]
theorem map_snoc {l : List Pay} {m : Nat} {p : Pay} (hp : l[m]? = some p) : (l.take (m + 1)).map (·.seq) = (l.take m).map (·.seq) ++ [p.seq] := by rw [take_snoc hp]; simp
theorem nodup_snoc {l : List Int} {x : Int} (h : l.Nodup) (hx : x ∉ l) : (l ++ [x]).Nodup := by
  rw [List.nodup_append]
  refine ⟨h, by simp, ?_⟩
  intro a ha b hb
  simp at hb
  subst hb
  intro e
  exact hx (e ▸ ha)

def GoodPost (h : Hs) (l : List Pay) (w : World) (e : Ending) (w' : World) : Prop := e = .returned (.bool (goodB h l)) ∧ Below w.heap.size w w'

attribute [local go_sem] hc_has hc_cr hc_sent hc_lim hc_pays hc_next hc_size index_accs pc_0 pc_1 pc_2 pc_3 pc_4 pc_5
attribute [local go_sem low] hc_hasN hc_crN hc_sentN hc_limN
theorem zb : ∀ w : World, (zeroValue 4).run Try.prog w = .ok (.bool false) w := fun _ => by kernel_rfl

set_option maxHeartbeats 2000000 in
set_option maxRecDepth 100000 in
theorem good_any (h : Hs) (l : List Pay) (a : Option Addr) (cap : Nat) (w : World) (hp : PaysAt w a cap l) :
    Calls Try.prog 16 #[.agg (hc h (.slice a l.length cap))] w (GoodPost h l w) := by
  have hbox := hnew w (.cells (hc h (.slice a l.length cap)) 30)
  by_cases hlen : l.length ≤ 24
  · cases hn : sm 0 h.next 1048576
    · have fin : goodB h l = false := goodB_no fun g => by rw [g.next] at hn; cases hn
      have hd : decide ((24 : Int) < l.length) = false := by simp; omega
      go_enter Try.func16, Try.ntmps16
      replace fin := Lib.hid fin
      go_wp2_with (go_at_call 63; refine (small_any _ _ _ _).mono ?_; rintro e w' ⟨rfl, rfl⟩)
      go_ret
      exact ⟨by rw [fin.out]; rfl, (Below.refl _ _).alloc (Nat.le_refl _) _⟩
    · have hd : decide ((24 : Int) < l.length) = false := by simp; omega
      have hmm := @run_makeMap Try.prog
      have hLen := Lib.hid hlen
      have hNext := Lib.hid hn
      go_enter Try.func16, Try.ntmps16
      go_wp2_with (first | go_skip | (go_at_call 63; refine (small_any _ _ _ _).mono ?_; rintro e w' ⟨rfl, rfl⟩) | (refine ld_mid 25 _ rfl rfl _ 0 rfl _ _ (accs h) _ _ hbox Try.underlying25 rfl info25 (hc_accs h _) ?_))
      clear hbox
      go_loopw [21] (fun i wr => ∃ k : Nat, k ≤ 4 ∧ i = .int .i64 k ∧ (∀ j : Nat, j < k → BankOk h j) ∧ wr.heap[w.heap.size]? = some (.cells (hc h (.slice a l.length cap)) 30 (0, 0)) ∧ Below w.heap.size w wr) (fun i _ => (4 - intOf i).toNat)
      case atStart => exact ⟨0, by omega, rfl, fun j hj => absurd hj (by omega), hnew _ _, (Below.refl _ _).alloc (Nat.le_refl _) _⟩
      case round =>
        obtain ⟨k, hk, rfl, hok, hg, hb⟩ := hrel
        have hsz := hb.size
        replace hok := Lib.hid hok
        by_cases h4 : k < 4
        · have hcl := cells_at hg
          have hgl := hlt hg
          cases e1 : sm (-1099511627776) (h.has k) 1099511627776
          · have fin : goodB h l = false := goodB_no fun g => by rw [(g.banks k (by omega) (by omega)).has] at e1; cases e1
            replace fin := Lib.hid fin
            go_wp2_with (go_at_call 63; refine (small_any _ _ _ _).mono ?_; rintro e w' ⟨rfl, rfl⟩)
            go_ret
            exact ⟨by rw [fin.out]; rfl, hb.alloc hsz _⟩
          cases e2 : sm 0 (h.cr k) 1000000
          · have fin : goodB h l = false := goodB_no fun g => by rw [(g.banks k (by omega) (by omega)).cr] at e2; cases e2
            replace fin := Lib.hid fin
            go_wp2_with (go_at_call 63; refine (small_any _ _ _ _).mono ?_; rintro e w' ⟨rfl, rfl⟩)
            go_ret
            exact ⟨by rw [fin.out]; rfl, hb.alloc hsz _⟩
          go_wp2_with (go_at_call 63; refine (small_any _ _ _ _).mono ?_; rintro e w' ⟨rfl, rfl⟩)
          obtain ⟨wo, hwo⟩ : ∃ wo : World, wo = wr := ⟨_, rfl⟩
          clear hcl hgl
          go_loopw [35] (fun i wr => ∃ m : Nat, m ≤ 4 ∧ i = .int .i64 m ∧ (∀ j : Nat, j < m → CellOk h k j) ∧ wr.heap[w.heap.size]? = some (.cells (hc h (.slice a l.length cap)) 30 (0, 0)) ∧ Below w.heap.size w wr) (fun i _ => (4 - intOf i).toNat)
          case atStart => exact ⟨0, by omega, rfl, fun j hj => absurd hj (by omega), hold hg _, hb.alloc hsz _⟩
          case round =>
            clear hg hb hwo hsz
            obtain ⟨m, hm, rfl, hokc, hg, hb⟩ := hrel
            have hsz := hb.size
            replace hokc := Lib.hid hokc
            by_cases h5 : m < 4
            · have hcl := cells_at hg
              cases e3 : sm 0 (h.sent k m) 1099511627776
              · have fin : goodB h l = false := goodB_no fun g => by rw [((g.banks k (by omega) (by omega)).cells m (by omega) (by omega)).s] at e3; cases e3
                replace fin := Lib.hid fin
                go_wp2_with (go_at_call 63; refine (small_any _ _ _ _).mono ?_; rintro e w' ⟨rfl, rfl⟩)
                go_ret
                exact ⟨by rw [fin.out]; rfl, hb⟩
              cases e4 : sm (-1) (h.lim k m) 1000000
              · have fin : goodB h l = false := goodB_no fun g => by rw [((g.banks k (by omega) (by omega)).cells m (by omega) (by omega)).l] at e4; cases e4
                replace fin := Lib.hid fin
                go_wp2_with (go_at_call 63; refine (small_any _ _ _ _).mono ?_; rintro e w' ⟨rfl, rfl⟩)
                go_ret
                exact ⟨by rw [fin.out]; rfl, hb⟩
              by_cases hkm : k = m
              · subst hkm
                by_cases h0 : h.sent k k = 0
                · have h0' : (h.sent k k != 0) = false := by simp [h0]
                  have hnew : CellOk h k k := ⟨e3, e4, fun _ => h0⟩
                  replace hnew := Lib.hid hnew
                  replace h0 := Lib.hid h0
                  go_wp2_with (go_at_call 63; refine (small_any _ _ _ _).mono ?_; rintro e w' ⟨rfl, rfl⟩)
                  go_roundw
                  case rel => exact ⟨k + 1, by omega, by go_num, fun j hj => if e : j = k then by rw [e]; exact hnew.out else hokc.out j (by omega), hg, hb⟩
                  case measure => simp [intOf]; omega
                · have h0' : (h.sent k k != 0) = true := by simp [h0]
                  have fin : goodB h l = false := goodB_no fun g => h0 (((g.banks k (by omega) (by omega)).cells k (by omega) (by omega)).d rfl)
                  replace h0 := Lib.hid h0
                  replace fin := Lib.hid fin
                  go_wp2_with (go_at_call 63; refine (small_any _ _ _ _).mono ?_; rintro e w' ⟨rfl, rfl⟩)
                  go_ret
                  exact ⟨by rw [fin.out]; rfl, hb⟩
              · have hkm1 : ((k : Int) == (m : Int)) = false := by simp; omega
                have hkm2 : (k == m) = false := by simp; omega
                have hnew : CellOk h k m := ⟨e3, e4, fun e => absurd e (by omega)⟩
                replace hnew := Lib.hid hnew
                go_wp2_with (go_at_call 63; refine (small_any _ _ _ _).mono ?_; rintro e w' ⟨rfl, rfl⟩)
                go_roundw
                case rel => exact ⟨m + 1, by omega, by go_num, fun j hj => if e : j = m then by rw [e]; exact hnew.out else hokc.out j (by omega), hg, hb⟩
                case measure => simp [intOf]; omega
            · have hd4 : decide ((m : Int) < 4) = false := by simp; omega
              have hbk : BankOk h k := ⟨e1, e2, fun i i0 i1 => by obtain ⟨j, rfl⟩ := Int.eq_ofNat_of_zero_le i0; exact hokc.out j (by omega)⟩
              replace hbk := Lib.hid hbk
              go_wp2
              go_roundw
              case rel => exact ⟨k + 1, by omega, by go_num, fun j hj => if e : j = k then by rw [e]; exact hbk.out else hok.out j (by omega), hg, hb⟩
              case measure => simp [intOf]; omega
        · have hd4 : decide ((k : Int) < 4) = false := by simp; omega
          have hcl := cells_at hg
          have hbanks : ∀ i : Int, 0 ≤ i → i < 4 → BankOk h i := fun i i0 i1 => by obtain ⟨j, rfl⟩ := Int.eq_ofNat_of_zero_le i0; exact hok.out j (by omega)
          replace hbanks := Lib.hid hbanks
          have hgl := hlt hg
          go_wp2_with fail
          obtain ⟨wo, rfl⟩ : ∃ wo : World, wo = wr := ⟨_, rfl⟩
          go_loopw [76] (fun i wr => ∃ m : Nat, m ≤ l.length ∧ i = .int .i64 m ∧ (∀ (j : Nat) (p : Pay), j < m → l[j]? = some p → goodPay p = true ∧ p.seq < h.next) ∧ ((l.take m).map (·.seq)).Nodup ∧ SeenAt wr wo.heap.size ((l.take m).map (·.seq)) ∧ wr.heap[w.heap.size]? = some (.cells (hc h (.slice a l.length cap)) 30 (0, 0)) ∧ Below w.heap.size w wr) (fun i _ => (l.length - intOf i).toNat)
          case atStart =>
            exact ⟨0, by omega, rfl, fun j p hj => absurd hj (by omega), by simp, SeenAt.made _, hold hg _, hb.alloc hsz _⟩
          case round =>
            clear hg hb hsz hcl
            obtain ⟨m, hm, rfl, hoks, hnd, hseen, hg, hb⟩ := hrel
            have hsz := hb.size
            have hmb := hseen.lt
            replace hoks := Lib.hid hoks
            by_cases h5 : m < l.length
            · obtain ⟨p, hpm⟩ : ∃ p, l[m]? = some p := ⟨l[m], List.getElem?_eq_getElem h5⟩
              obtain ⟨b, off, rfl, hbl, hpc⟩ := hp.row (by omega)
              have hpc' : ∀ j v, (pc p)[j]? = some v → wr.cell? ⟨b, off + m * 6 + j, none⟩ = some v := fun j v hv => by
                rw [Nat.add_assoc]
                exact (hb.cell (p := ⟨b, _, none⟩) hbl).trans (hpc m p hpm j v hv)
              replace hpc' := Lib.hid hpc'
              have hPm := Lib.hid hpm
              clear hpc hpm
              cases g1 : goodPay p
              · have fin : goodB h l = false := goodB_no fun g => by rw [(g.pays p (List.mem_of_getElem? hPm.out)).1] at g1; cases g1
                replace fin := Lib.hid fin
                go_wp2_with (first | go_skip | (go_at_call 63; refine (small_any _ _ _ _).mono ?_; rintro e w' ⟨rfl, rfl⟩) | (refine ld_cells 36 _ rfl rfl _ _ rfl (pc p) _ Try.underlying36 rfl info36 hpc'.out ?_) | (refine st_new 36 _ _ rfl _ 36 _ rfl rfl rfl (pc p) rfl info36 rfl (pc_one p) ?_) | (refine ld_row 36 _ rfl rfl _ rfl _ (pc p) _ _ (hnew _ _) Try.underlying36 rfl info36 ?_) | (go_at_call 22; refine (goodPay_any p _).mono ?_; rintro e w1 ⟨rfl, hb1⟩; have hq1 := hkeep hb1 (hnew _ _); have hcq := cells_at hq1; have hg1 := hkeep hb1 (hold hg _); have hcl1 := cells_at hg1; have hs1 := (hseen.below ((Below.refl _ _).alloc (Nat.le_refl _) _)).below hb1; have hlook := hs1.look Try.underlying73 Try.underlying3 Try.underlying4 zb p.seq))
                go_ret
                exact ⟨by rw [fin.out]; rfl, bstep (hb.alloc hsz _) (by simp; omega) hb1⟩
              by_cases g2 : h.next ≤ p.seq
              · have fin : goodB h l = false := goodB_no fun g => by have := (g.pays p (List.mem_of_getElem? hPm.out)).2; omega
                replace fin := Lib.hid fin
                go_wp2_with (first | go_skip | (go_at_call 63; refine (small_any _ _ _ _).mono ?_; rintro e w' ⟨rfl, rfl⟩) | (refine ld_cells 36 _ rfl rfl _ _ rfl (pc p) _ Try.underlying36 rfl info36 hpc'.out ?_) | (refine st_new 36 _ _ rfl _ 36 _ rfl rfl rfl (pc p) rfl info36 rfl (pc_one p) ?_) | (refine ld_row 36 _ rfl rfl _ rfl _ (pc p) _ _ (hnew _ _) Try.underlying36 rfl info36 ?_) | (go_at_call 22; refine (goodPay_any p _).mono ?_; rintro e w1 ⟨rfl, hb1⟩; have hq1 := hkeep hb1 (hnew _ _); have hcq := cells_at hq1; have hg1 := hkeep hb1 (hold hg _); have hcl1 := cells_at hg1; have hs1 := (hseen.below ((Below.refl _ _).alloc (Nat.le_refl _) _)).below hb1; have hlook := hs1.look Try.underlying73 Try.underlying3 Try.underlying4 zb p.seq))
                go_ret
                exact ⟨by rw [fin.out]; rfl, bstep (hb.alloc hsz _) (by simp; omega) hb1⟩
              have hd2 : decide (h.next ≤ p.seq) = false := by simpa using g2
              by_cases g3 : p.seq ∈ (l.take m).map (·.seq)
              · have fin : goodB h l = false := goodB_no fun g => seq_fresh g.nodup hPm.out g3
                have hd3 : decide (p.seq ∈ (l.take m).map (·.seq)) = true := by simpa using g3
                replace fin := Lib.hid fin
                replace g3 := Lib.hid g3
                replace hd3 := Lib.hid hd3
                go_wp2_with (first | go_skip | (go_at_call 63; refine (small_any _ _ _ _).mono ?_; rintro e w' ⟨rfl, rfl⟩) | (refine ld_cells 36 _ rfl rfl _ _ rfl (pc p) _ Try.underlying36 rfl info36 hpc'.out ?_) | (refine st_new 36 _ _ rfl _ 36 _ rfl rfl rfl (pc p) rfl info36 rfl (pc_one p) ?_) | (refine ld_row 36 _ rfl rfl _ rfl _ (pc p) _ _ (hnew _ _) Try.underlying36 rfl info36 ?_) | (go_at_call 22; refine (goodPay_any p _).mono ?_; rintro e w1 ⟨rfl, hb1⟩; have hq1 := hkeep hb1 (hnew _ _); have hcq := cells_at hq1; have hg1 := hkeep hb1 (hold hg _); have hcl1 := cells_at hg1; have hs1 := (hseen.below ((Below.refl _ _).alloc (Nat.le_refl _) _)).below hb1; have hlook := hs1.look Try.underlying73 Try.underlying3 Try.underlying4 zb p.seq; rw [hd3.out] at hlook))
                go_ret
                exact ⟨by rw [fin.out]; rfl, bstep (hb.alloc hsz _) (by simp; omega) hb1⟩
              · have hd3 : decide (p.seq ∈ (l.take m).map (·.seq)) = false := by simpa using g3
                replace g3 := Lib.hid g3
                replace hd3 := Lib.hid hd3
                replace hnd := Lib.hid hnd
                go_wp2_with (first | go_skip | (go_at_call 63; refine (small_any _ _ _ _).mono ?_; rintro e w' ⟨rfl, rfl⟩) | (refine ld_cells 36 _ rfl rfl _ _ rfl (pc p) _ Try.underlying36 rfl info36 hpc'.out ?_) | (refine st_new 36 _ _ rfl _ 36 _ rfl rfl rfl (pc p) rfl info36 rfl (pc_one p) ?_) | (refine ld_row 36 _ rfl rfl _ rfl _ (pc p) _ _ (hnew _ _) Try.underlying36 rfl info36 ?_) | (go_at_call 22; refine (goodPay_any p _).mono ?_; rintro e w1 ⟨rfl, hb1⟩; have hq1 := hkeep hb1 (hnew _ _); have hcq := cells_at hq1; have hg1 := hkeep hb1 (hold hg _); have hcl1 := cells_at hg1; have hs1 := (hseen.below ((Below.refl _ _).alloc (Nat.le_refl _) _)).below hb1; have hlook := hs1.look Try.underlying73 Try.underlying3 Try.underlying4 zb p.seq; rw [hd3.out] at hlook; obtain ⟨w2, hput, hs2, hgr2, hsz2⟩ := hs1.put Try.underlying73 Try.underlying3 p.seq g3.out; have hm1 := hs1.lt))
                go_roundw
                case rel =>
                  refine ⟨m + 1, by omega, by go_num, ?_, ?_, ?_, ?_, ?_⟩
                  · intro j q hj hq
                    by_cases e : j = m
                    · subst e
                      rw [hPm.out] at hq
                      cases hq
                      exact ⟨g1, by omega⟩
                    · exact hoks.out j q (by omega) hq
                  · rw [map_snoc hPm.out]
                    exact nodup_snoc hnd.out g3.out
                  · rw [map_snoc hPm.out]
                    exact hs2
                  · exact (hgr2.block _ (hlt hg1) (by simp; omega)).trans hg1
                  · exact (bstep (hb.alloc hsz _) (by simp; omega) hb1).grown hgr2 (by have := hb1.size; simp at this; omega) (fun k hk => by cases hk; omega)
                case measure => simp [intOf]; omega
            · have hd5 : decide ((m : Int) < l.length) = false := by simp; omega
              have hml : m = l.length := by omega
              have fin : goodB h l = true := goodB_yes ⟨hLen.out, hNext.out, hbanks.out, fun p hpm => by
                  obtain ⟨j, hj⟩ := List.getElem?_of_mem hpm
                  exact hoks.out j p (by have := (List.getElem?_eq_some_iff.1 hj).1; omega) hj, by rw [hml, List.take_length] at hnd; exact hnd⟩
              replace fin := Lib.hid fin
              replace hml := Lib.hid hml
              go_wp2
              go_ret
              exact ⟨by rw [fin.out]; rfl, hb⟩
  · have fin : goodB h l = false := goodB_no fun g => hlen g.len
    have hd : decide ((24 : Int) < l.length) = true := by simp; omega
    have hd' : (24 : Int) < l.length := by omega
    go_enter Try.func16, Try.ntmps16
    replace fin := Lib.hid fin
    go_wp2_with (go_at_call 63; refine (small_any _ _ _ _).mono ?_; rintro e w' ⟨rfl, rfl⟩)
    go_ret
    exact ⟨by rw [fin.out]; rfl, (Below.refl _ _).alloc (Nat.le_refl _) _⟩
end Go.Proofs.Ytggfdkkhlokmlaa
