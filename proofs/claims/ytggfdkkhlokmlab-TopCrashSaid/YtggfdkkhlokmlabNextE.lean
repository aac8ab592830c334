/- bank.next: untie and close. -/
import Derived.Test.YtggfdkkhlokmlabNextB
import Derived.Test.YtggfdkkhlokmlabCUnt
import Derived.Test.YtggfdkkhlokmlabCPln
namespace Go.Proofs.Ytggfdkkhlokmlab
open Go.RowKit
attribute [local go_sem] hc_pays hc_next hc_size rc_0 rc_1 rc_2 rc_size dc_0 dc_1 dc_2 dc_3 dc_4 dc_size
/-- The first k payments are shut. -/
def shutTo (l : List Pay) (k : Nat) : List Pay := (l.take k).map Pay.shut ++ l.drop k
theorem shutTo_len (l : List Pay) (k : Nat) : (shutTo l k).length = l.length := by simp [shutTo]; omega
theorem shutTo_zero (l : List Pay) : shutTo l 0 = l := by simp [shutTo]
theorem shutTo_end (l : List Pay) : shutTo l l.length = l.map Pay.shut := by simp [shutTo]
theorem drop_pay {l : List Pay} {k : Nat} (hk : k < l.length) : l.drop k = payAt l k :: l.drop (k + 1) := by
 have h := payAt_get hk
 rw [List.getElem?_eq_getElem hk] at h
 rw [List.drop_eq_getElem_cons hk, Option.some.inj h]
theorem take_pay {l : List Pay} {k : Nat} (hk : k < l.length) : l.take (k + 1) = l.take k ++ [payAt l k] := by rw [List.take_add_one, payAt_get hk]; rfl
theorem shutTo_at {l : List Pay} {k : Nat} (hk : k < l.length) : payAt (shutTo l k) k = payAt l k := by
 refine payAt_some ?_
 rw [shutTo, List.getElem?_append_right (by rw [List.length_map, List.length_take]; omega), drop_pay hk]
 simp [Nat.min_eq_left (Nat.le_of_lt hk)]
theorem shutTo_no {l : List Pay} {k : Nat} (hk : k < l.length) (h1 : (payAt l k).st ≠ 1) : shutTo l (k + 1) = shutTo l k := by
 rw [shutTo, shutTo, take_pay hk, drop_pay hk, List.map_append, List.append_assoc]
 simp [Pay.shut, h1]
theorem shutTo_yes {l : List Pay} {k : Nat} (hk : k < l.length) (h1 : (payAt l k).st = 1) : shutTo l (k + 1) = (shutTo l k).set k (payAt l k).gone := by
 rw [shutTo, shutTo, take_pay hk, drop_pay hk, List.map_append, List.append_assoc, List.set_append_right _ _ (by rw [List.length_map, List.length_take]; omega)]
 simp [Pay.shut, h1, Nat.min_eq_left (Nat.le_of_lt hk)]
theorem waiting_take {l : List Pay} {k : Nat} (hk : k < l.length) : waiting (l.take (k + 1)) = waiting (l.take k) + if (payAt l k).st = 1 then 1 else 0 := by
 rw [take_pay hk, waiting, waiting, List.countP_append]
 congr 1
 simp [List.countP_cons]
set_option maxRecDepth 100000 in
set_option maxHeartbeats 400000 in
theorem next_untie (h : Hs) (l : List Pay) (v0 : Value) (a b c n : Int) (w : World) (hown : OwnPays w 0 v0 l) (g : GoodP h l) :
  Calls Try.prog 61 #[.agg (hc h v0), .agg (dc ⟨8, a, b, c, n⟩)] w (NextPost v0 (⟨(untieS h l).h, (untieS h l).l, 0, (untieS h l).d.length, (untieS h l).d⟩) w) := by
 have htl : (untieS h l).l.length = l.length := (untie_ext h l).len
 have cU := fun a cap w hp => untie_anyS h l a cap w hp
 obtain ⟨T, hT⟩ : ∃ T, untieS h l = T := ⟨_, rfl⟩
 rw [hT] at htl cU ⊢
 replace hT := Lib.hid hT
 replace htl := Lib.hid htl
 replace cU := Lib.hid cU
 obtain ⟨a0, cap0, rfl, hp, hpb⟩ := hown.at_
 have hpl : 0 < l.length → ∀ b off s, a0 = some ⟨b, off, s⟩ → b < w.heap.size := fun hl b off s e => by
  obtain ⟨b', off', e', hbl, _⟩ := hp.row hl
  rw [e] at e'; cases e'; exact hbl
 have hlen := g.len
 have hroom := g.room
 replace hp := Lib.hid hp
 replace hpb := Lib.hid hpb
 replace hpl := Lib.hid hpl
 replace hown := Lib.hid hown
 go_enter Try.func61, Try.ntmps61
 go_upto_region 1 with fail
 generalize hW : World.alloc (World.alloc (World.alloc (World.alloc w _) _) _) _ = W0
 obtain ⟨hA, hD, hH, hR, hB⟩ : W0.heap[w.heap.size]? = some (.cells (hc h (.slice a0 l.length cap0)) 29 (0, 0)) ∧ W0.heap[w.heap.size + 1]? = some (.cells (dc ⟨8, a, b, c, n⟩) 40 (0, 0)) ∧ W0.heap[w.heap.size + 2]? = some (.cells (hc Hs.zero (.slice none 0 0)) 29 (0, 0)) ∧ W0.heap[w.heap.size + 3]? = some (.cells (rc 0 0 (.slice none 0 0)) 44 (0, 0)) ∧ Below w.heap.size w W0 := by rw [← hW]; exact four4 w _ _ _ _
 have hp0 := hp.out.below hB
 have cA := cells_at hA
 have cD := cells_at hD
 clear hW
 go_wp2_with (first | go_skip | (refine ld_row 29 _ rfl rfl _ rfl _ _ _ _ hA Try.underlying29 rfl info30 ?_))
 refine (cU.out a0 cap0 _ hp0).mono ?_
 rintro e w1 ⟨⟨a1, cap1, v, rfl, hp1, hown1, hsrc, hapt⟩, hb1⟩
 obtain ⟨al, cl, rfl, hil, hila⟩ := hown1.at_
 rw [nats_len] at hown1 hapt ⊢
 have hH1 := hold (hkeep hb1 hH) (.cells (hc T.h (.slice a1 T.l.length cap1)) 29)
 have hR1 := hold (hkeep hb1 hR) (.cells (hc T.h (.slice a1 T.l.length cap1)) 29)
 have hT1 := hnew w1 (.cells (hc T.h (.slice a1 T.l.length cap1)) 29)
 have hp2 := hp1.alloc (.cells (hc T.h (.slice a1 T.l.length cap1)) 29)
 have ho2 := hown1.alloc (.cells (hc T.h (.slice a1 T.l.length cap1)) 29)
 have hB1 := bstep hB hB.size hb1
 have hB2 := hB1.alloc (Nat.le_trans hB.size hb1.size) (.cells (hc T.h (.slice a1 T.l.length cap1)) 29)
 have hR0 := hlt hR
 clear hA hD hH hR hB hp0 hb1 hp1 hown1 hB1 cA cD hil hila
 replace hH1 := Lib.hid hH1
 replace hR1 := Lib.hid hR1
 replace hT1 := Lib.hid hT1
 replace hsrc := Lib.hid hsrc
 replace hapt := Lib.hid hapt
 replace ho2 := Lib.hid ho2
 go_upto_region 49 with (first | go_skip | (refine st_new 29 _ _ rfl _ 29 _ rfl rfl rfl (hc T.h (.slice a1 T.l.length cap1)) rfl info30 rfl (hc_one _ _ rfl) ?_))
 have hH2 := hH1.out
 have hR2 := hR1.out
 have hT2 := hT1.out
 replace ho2 := ho2.out
 generalize hWs : w1.alloc _ = Ws at *
 clear hWs hH1 hR1 hT1
 replace ho2 := Lib.hid ho2
 go_wp2_with (first | go_skip | (refine ld_row 29 _ rfl rfl _ rfl _ _ _ _ hT2 Try.underlying29 rfl info30 ?_) | (refine st_row 29 _ _ rfl rfl _ rfl _ rfl _ _ hH2 info30 rfl (hc_one _ _ rfl) ?_; intro wa hra hgra hsza) | (refine st_row 44 _ _ rfl rfl _ rfl (rc 0 (T.d.length : Int) (.slice al T.d.length cl)) rfl _ _ ((hgra.block _ (hlt hR2) (by simp)).trans hR2) infoRp rfl (rc_one _ _ _ rfl) ?_; intro wb hrb hgrb hszb))
 refine bodyPost_ret (results_hr rfl _ _ _ _ _ _ _ _ _ rfl rfl ((hgrb.block _ (hlt hra) (by simp)).trans hra) hrb) rfl (next_end (X := ⟨T.h, T.l, 0, (T.d.length : Int), T.d⟩) rfl (only_new hB2) (hlt hR2) hgra hgrb hp2 (fun hl b off s e => ?_) (ho2.out.mono (by omega)) (fun x hx => ?_))
 ·rcases hsrc.out b off s e with ⟨off', s', e'⟩ | hbb
  ·have h1 := hpl.out (by rw [← htl.out]; exact hl) b off' s' e'
   exact ⟨.inl (by rw [e']; rfl), by omega, by omega, hapt.out hl b off s e⟩
  ·exact ⟨.inr (by omega), by omega, by omega, hapt.out hl b off s e⟩
 ·have := ho2.out.own hx
  omega
set_option maxRecDepth 100000 in
set_option maxHeartbeats 400000 in
theorem next_close (h : Hs) (l : List Pay) (v0 : Value) (a b c n : Int) (w : World) (hown : OwnPays w 0 v0 l) (g : GoodP h l) :
  Calls Try.prog 61 #[.agg (hc h v0), .agg (dc ⟨9, a, b, c, n⟩)] w (NextPost v0 (⟨h, l.map Pay.shut, 0, waiting l, []⟩) w) := by
 obtain ⟨a0, cap0, rfl, hp, hpb⟩ := hown.at_
 have hpl : 0 < l.length → ∀ b off s, a0 = some ⟨b, off, s⟩ → b < w.heap.size := fun hl b off s e => by
  obtain ⟨b', off', e', hbl, _⟩ := hp.row hl
  rw [e] at e'; cases e'; exact hbl
 have hlen := g.len
 have hroom := g.room
 have hrow : 0 < l.length → ∃ g cur, a0 = some ⟨g, 0, none⟩ ∧ 0 ≤ g ∧ g < w.heap.size ∧ w.heap[g]? = some (.cells cur 70 (0, 0)) ∧ cur.size = cap0 * 6 ∧ ∀ j p, l[j]? = some p → ∀ k v, (pc p)[k]? = some v → cur[j * 6 + k]? = some v := fun hl => by
  obtain ⟨g, cap, cur, e, h1, h2, h3, h4, h5, h6⟩ := hown.row hl
  simp only [Value.slice.injEq] at e
  obtain ⟨rfl, -, rfl⟩ := e
  exact ⟨g, cur, rfl, h1, hlt h2, h2, h5, h6⟩
 have hcl := hp.le
 have hcm := hp.capm
 have hn0 := hp.nil0
 replace hrow := Lib.hid hrow
 replace hn0 := Lib.hid hn0
 replace hp := Lib.hid hp
 replace hpb := Lib.hid hpb
 replace hpl := Lib.hid hpl
 replace hown := Lib.hid hown
 go_enter Try.func61, Try.ntmps61
 go_upto_region 1 with fail
 generalize hW : World.alloc (World.alloc (World.alloc (World.alloc w _) _) _) _ = W0
 obtain ⟨hA, hD, hH, hR, hB⟩ : W0.heap[w.heap.size]? = some (.cells (hc h (.slice a0 l.length cap0)) 29 (0, 0)) ∧ W0.heap[w.heap.size + 1]? = some (.cells (dc ⟨9, a, b, c, n⟩) 40 (0, 0)) ∧ W0.heap[w.heap.size + 2]? = some (.cells (hc Hs.zero (.slice none 0 0)) 29 (0, 0)) ∧ W0.heap[w.heap.size + 3]? = some (.cells (rc 0 0 (.slice none 0 0)) 44 (0, 0)) ∧ Below w.heap.size w W0 := by rw [← hW]; exact four4 w _ _ _ _
 have hp0 := hp.out.below hB
 have cA := cells_at hA
 have cD := cells_at hD
 clear hW
 have hR0 : (0 < l.length → ∃ g cur, a0 = some ⟨g, 0, none⟩ ∧ 0 ≤ g ∧ g < w.heap.size ∧ W0.heap[g]? = some (.cells cur 70 (0, 0)) ∧ cur.size = cap0 * 6 ∧ ∀ j p, (shutTo l 0)[j]? = some p → ∀ f v, (pc p)[f]? = some v → cur[j * 6 + f]? = some v) := fun hl => by
  obtain ⟨g, cur, e, h1, h2, h3, h4, h5⟩ := hrow.out hl
  exact ⟨g, cur, e, h1, h2, hkeep hB h3, h4, by rw [shutTo_zero]; exact h5⟩
 replace hR0 := Lib.hid hR0
 replace hB := only_new (av := fun b => (Value.slice a0 l.length cap0).ownBlock = some b) hB
 go_wp2_with fail
 go_loopg [12, 273] l.length (fun g s12 s273 wx => ∃ k : Nat, k ≤ l.length ∧ g = l.length - k ∧ s273 = .int .i64 k ∧ s12 = .int .i64 ((waiting (l.take k) : Nat) : Int) ∧ wx.heap[w.heap.size]? = some (.cells (hc h (.slice a0 l.length cap0)) 29 (0, 0)) ∧ wx.heap[w.heap.size + 2]? = some (.cells (hc Hs.zero (.slice none 0 0)) 29 (0, 0)) ∧ wx.heap[w.heap.size + 3]? = some (.cells (rc 0 0 (.slice none 0 0)) 44 (0, 0)) ∧ Only (fun b => (Value.slice a0 l.length cap0).ownBlock = some b) w wx ∧ (0 < l.length → ∃ g cur, a0 = some ⟨g, 0, none⟩ ∧ 0 ≤ g ∧ g < w.heap.size ∧ wx.heap[g]? = some (.cells cur 70 (0, 0)) ∧ cur.size = cap0 * 6 ∧ ∀ j p, (shutTo l k)[j]? = some p → ∀ f v, (pc p)[f]? = some v → cur[j * 6 + f]? = some v))
 case atStart => exact ⟨0, by omega, rfl, rfl, by simp [waiting], hA, hH, hR, hB, hR0.out⟩
 case round =>
  clear hA hD hH hR hB hp0 hR0 cA cD
  obtain ⟨k, hk, rfl, rfl, rfl, hA, hH, hR, hB, hrw⟩ := hrel
  have cA := cells_at hA
  by_cases h6 : k < l.length
  ·have hk2 : (k : Int) < (l.length : Int) := by omega
   have h6d : decide ((k : Int) < (l.length : Int)) = true := decide_eq_true hk2
   obtain ⟨gg, cur, rfl, hbg, hgl, hgg, hcs, hcur⟩ := hrw (by omega)
   have hwt := waiting_take h6
   have hwl := waiting_le (l.take k)
   rw [List.length_take] at hwl
   have hsa := shutTo_at h6
   have hcg : k * 6 + 4 < cur.size := by omega
   have hx4 : cur[k * 6 + 4]? = some (.int .i64 (payAt l k).st) := hcur k (payAt l k) (by rw [← hsa]; exact payAt_get (by rw [shutTo_len]; exact h6)) 4 _ (pc_4 _)
   have fG := frozenAt hgg
   have cG : wr.cell? ⟨gg, k * 6 + 4, none⟩ = some (.int .i64 (payAt l k).st) := (cells_at hgg _).trans hx4
   by_cases hs : (payAt l k).st = 1
   ·have hstep := shutTo_yes h6 hs
    rw [if_pos hs] at hwt
    rw [hs] at cG
    have hset := hsetSame (i := k * 6 + 4) hgg (.int .i64 3)
    have hcur2 := row_set (f := 4) (q := (payAt l k).gone) (u := .int .i64 3) hcur (by rw [shutTo_len]; exact h6) (by omega) (by rw [hsa]; exact gone_pc)
    rw [← hstep] at hcur2
    replace hs := Lib.hid hs
    replace hwt := Lib.hid hwt
    replace hsa := Lib.hid hsa
    replace hset := Lib.hid hset
    replace hstep := Lib.hid hstep
    replace hcur2 := Lib.hid hcur2
    replace hcur := Lib.hid hcur
    replace hrw := Lib.hid hrw
    replace hx4 := Lib.hid hx4
    go_wp2_with fail
    go_roundg (l.length - (k + 1))
    case measure => omega
    case rel => exact ⟨k + 1, by omega, rfl, by go_num, by rw [hwt.out]; go_num, hsetOther hA (by omega) _, hsetOther hH (by omega) _, hsetOther hR (by omega) _, hB.step (only_set gg _ _ _) fun b e => .inl (by rw [e]; rfl), fun _ => ⟨gg, _, rfl, hbg, hgl, hset.out, by simpa using hcs, hcur2.out⟩⟩
   ·have hstep := shutTo_no h6 hs
    rw [if_neg hs] at hwt
    obtain ⟨st, hst⟩ : ∃ st, (payAt l k).st = st := ⟨_, rfl⟩
    rw [hst] at cG hs
    have hs1 : (st == 1) = false := by rw [beq_eq_false_iff_ne]; exact hs
    replace hst := Lib.hid hst
    replace hwt := Lib.hid hwt
    replace hsa := Lib.hid hsa
    replace hstep := Lib.hid hstep
    replace hcur := Lib.hid hcur
    replace hrw := Lib.hid hrw
    replace hx4 := Lib.hid hx4
    go_wp2_with fail
    go_roundg (l.length - (k + 1))
    case measure => omega
    case rel => exact ⟨k + 1, by omega, rfl, by go_num, by rw [hwt.out]; rfl, hA, hH, hR, hB, fun _ => ⟨gg, cur, rfl, hbg, hgl, hgg, hcs, by rw [hstep.out]; exact hcur.out⟩⟩
  ·obtain rfl : k = l.length := by omega
   rw [List.take_length]
   rw [shutTo_end] at hrw
   have hp2 : PaysAt wr a0 cap0 (l.map Pay.shut) := by
    by_cases hl : 0 < l.length
    ·obtain ⟨gg, cur, rfl, hbg, hgl, hgg, hcs, hcur⟩ := hrw hl
     exact PaysAt.of_row hgg (by simpa using hcl) hcm (by simp; omega) hcur
    ·exact ⟨by simpa using hcl, hcm, by simp; omega, hn0.out, fun h => by simp at h; omega⟩
   clear hk hrw
   go_wp2_with (first | go_skip | (refine ld_row 29 _ rfl rfl _ rfl _ _ _ _ hA Try.underlying29 rfl info30 ?_) | (refine st_row 29 _ _ rfl rfl _ rfl _ rfl _ _ hH info30 rfl (hc_one _ _ rfl) ?_; intro wa hra hgra hsza) | (refine st_row 44 _ _ rfl rfl _ rfl (rc 0 ((waiting l : Nat) : Int) (.slice none 0 0)) rfl _ _ ((hgra.block _ (hlt hR) (by simp)).trans hR) infoRp rfl (rc_one _ _ _ rfl) ?_; intro wb hrb hgrb hszb))
   exact bodyPost_ret (results_hr rfl _ _ _ _ _ _ _ _ _ rfl rfl ((hgrb.block _ (hlt hra) (by simp)).trans hra) hrb) rfl (next_end (X := ⟨h, l.map Pay.shut, 0, (waiting l : Int), []⟩) (by simp only [List.length_map]) hB (hlt hR) hgra hgrb hp2 (fun hl b off s e => ⟨.inl (by rw [e]; rfl), by have := hpl.out (by simpa using hl) b off s e; omega, by have := hpl.out (by simpa using hl) b off s e; omega, by simp [Value.ownBlock]⟩) (OwnInts.nil _ _) (fun x hx => by simp [Value.ownBlock] at hx))
end Go.Proofs.Ytggfdkkhlokmlab


