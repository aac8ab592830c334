/- BookBack: the walk. -/
import Derived.Test.YtggfdkkhlokmlaaBookRead
import Derived.Test.YtggfdkkhlokmlaaInts
namespace Go.Proofs.Ytggfdkkhlokmlaa
open Go.RowKit
attribute [local go_sem] dc_size
/-- The ends of the first k frames. -/
def endsL (l : List Deed) (k : Nat) : List Int := (List.range k).map fun i => ((text (l.take (i + 1))).length : Int)
theorem endsL_len (l : List Deed) (k : Nat) : (endsL l k).length = k := by simp [endsL]
theorem endsL_succ (l : List Deed) (k : Nat) : endsL l (k + 1) = endsL l k ++ [((text (l.take (k + 1))).length : Int)] := by simp [endsL, List.range_succ]
theorem endsL_get {l : List Deed} {k i : Nat} (h : i < k) : (endsL l k)[i]? = some ((text (l.take (i + 1))).length : Int) := by simp [endsL, h]
theorem text_len_le : ∀ (l : List Deed), (∀ x ∈ l, noted x = true) → (text l).length ≤ 28 * l.length
  | [], _ => by simp [text]
  | x :: l, h => by
    have h1 := text_len_le l fun y hy => h y (by simp [hy])
    have h2 := body_len (h x (by simp))
    have h3 := frame_len x
    rw [text_cons]
    simp only [List.length_append, List.length_cons]
    omega
set_option maxRecDepth 100000 in
set_option maxHeartbeats 8000000 in
theorem bookBack_any (l : List Deed) (a : Option Addr) (cap : Nat) (cut : Int) (w : World) (hat : ActsAt w a cap l) :
    Calls Try.prog 7 #[.slice a l.length cap, .int .i64 cut] w fun e w' => e = .returned (.bool true) ∧ Below w.heap.size w w' := by
  obtain ⟨i0, z, hi, hz0, hz1, hz2, hz3⟩ := info3z
  have hml : l.length ≤ 9223372036854775807 := by have h1 := hat.le; have h2 := hat.capm; unfold maxLen at h2; omega
  go_enter Try.func7, Try.ntmps7
  go_wp2_with fail
  go_loopg [5, 6, 7, 8, 9] 100 (fun g s5 s6 s7 _ _ wr => ∃ (k : Nat) (st : ByteArray), k ≤ l.length ∧ k ≤ 100 ∧ g = 100 - k ∧ s7 = .int .i64 k ∧ s5 = .string st ∧ st = str (text (l.take k)) ∧ (∀ x ∈ l.take k, noted x = true) ∧ OwnInts wr w.heap.size s6 (endsL l k) ∧ Below w.heap.size w wr)
  case atStart => exact ⟨0, _, by omega, by omega, rfl, rfl, rfl, rfl, by simp, OwnInts.nil _ _, Below.refl _ _⟩
  case round =>
    obtain ⟨k, st, hk, hk100, rfl, rfl, rfl, hst, hno, hown, hb⟩ := hrel
    obtain ⟨wo, rfl⟩ : ∃ wo : World, wo = wr := ⟨_, rfl⟩
    have hat1 := hat.below hb
    have htl := text_len_le _ hno
    rw [List.length_take] at htl
    have hsz : st.size ≤ 2800 := by rw [hst, str_size]; omega
    by_cases h4 : k < l.length ∧ k < 100
    · obtain ⟨h4, h5⟩ := h4
      have hd4 : decide ((k : Int) < l.length) = true := decide_eq_true (by omega)
      have hd5 : decide ((k : Int) < 100) = true := decide_eq_true (by omega)
      obtain ⟨p, hpk⟩ : ∃ p, l[k]? = some p := ⟨l[k], List.getElem?_eq_getElem h4⟩
      obtain ⟨b1, o1, rfl, _, hc1⟩ := hat1.row (by omega)
      have hcp : ∀ j v, (dc p)[j]? = some v → wo.cell? ⟨b1, o1 + k * 5 + j, none⟩ = some v := fun j v hv => by rw [Nat.add_assoc]; exact hc1 k p hpk j v hv
      replace hcp := Lib.hid hcp
      clear hc1
      cases hpn : noted p with
      | false =>
        have cF := fun w => frame_any p w
        rw [show framed p = ([], 3) from by simp [framed, hpn]] at cF
        obtain ⟨sf, hsf⟩ : ∃ sf, str [] = sf := ⟨_, rfl⟩
        simp only [hsf] at cF
        replace cF := Lib.hid cF
        replace hst := Lib.hid hst
        replace hno := Lib.hid hno
        replace hpk := Lib.hid hpk
        replace hpn := Lib.hid hpn
        replace hsf := Lib.hid hsf
        go_wp2_with (first | go_skip | (refine ld_cells 44 _ rfl rfl b1 (o1 + k * 5) rfl (dc p) _ Try.underlying44 rfl info44 hcp.out ?_) | (go_at_call 33; refine (cF.out _).mono ?_; rintro e w2 ⟨rfl, hb2⟩) | (go_at_call 41; refine (booksK_any _).mono ?_; rintro e w3 ⟨rfl, hb3⟩))
        go_ret
        exact ⟨rfl, (hb.trans (hb2.mono hb.size)).trans (hb3.mono (Nat.le_trans hb.size hb2.size))⟩
      | true =>
        have cF := fun w => frame_any p w
        rw [framed_noted hpn] at cF
        obtain ⟨sf, hsf⟩ : ∃ sf, str (frame p) = sf := ⟨_, rfl⟩
        simp only [hsf] at cF
        have hfs : sf.size ≤ 28 := by
          have := body_len hpn
          have := frame_len p
          rw [← hsf, str_size]; omega
        obtain ⟨s2, hs2⟩ : ∃ s2, st ++ sf = s2 := ⟨_, rfl⟩
        have hs3 : s2 = str (text (l.take (k + 1))) := by rw [text_snoc hpk, ← str_app, ← hs2, hst, hsf]
        have hs2z : s2.size ≤ 2828 := by rw [← hs2, ByteArray.size_append]; omega
        have hend : ((text (l.take (k + 1))).length : Int) = s2.size := by rw [hs3, str_size]
        have hno2 : ∀ x ∈ l.take (k + 1), noted x = true := by
          rw [take_snoc hpk]
          intro x hx
          rcases List.mem_append.1 hx with hx | hx
          · exact hno x hx
          · simp only [List.mem_singleton] at hx; rw [hx]; exact hpn
        have hel := endsL_len l k
        replace cF := Lib.hid cF
        replace hst := Lib.hid hst
        replace hno := Lib.hid hno
        replace hno2 := Lib.hid hno2
        replace hpk := Lib.hid hpk
        replace hpn := Lib.hid hpn
        replace hsf := Lib.hid hsf
        replace hs3 := Lib.hid hs3
        replace hend := Lib.hid hend
        replace hel := Lib.hid hel
        have hal : ∀ w' o, Below wo.heap.size wo w' → (World.alloc w' o).ownsRow w.heap.size 3 1 u6 (endsL l k).length (icells (endsL l k)) := fun w' o h => ((hown.below h).alloc o).1
        replace hal := Lib.hid hal
        replace hown := Lib.hid hown
        go_wp2_with (first | go_skip | (at_builtin; refine wpList_append_own _ rfl _ _ 54 rfl w.heap.size 3 i0 z 1 8 Try.underlying54 hi hz0 hz1 hz2 hz3 (by decide) u6 (endsL l k).length (icells (endsL l k)) rfl (hal.out _ _ hb2) ⟨w2.heap.size, 0, none⟩ 1 1 [.int .i64 (s2.size : Int)] rfl rfl ?c1 ?c2 ?c3 ?c4 ?c5 ?_) | (refine ld_cells 44 _ rfl rfl b1 (o1 + k * 5) rfl (dc p) _ Try.underlying44 rfl info44 hcp.out ?_) | (go_at_call 33; refine (cF.out _).mono ?_; rintro e w2 ⟨rfl, hb2⟩))
        case c1 => exact cell_new1 w2 _ _
        case c2 => intro u hu; obtain rfl := List.mem_singleton.1 hu; rfl
        case c3 => rw [hel.out]; simp only [maxLen]; omega
        case c4 => rw [hel.out]; omega
        case c5 => rw [alloc_size]; have := hb.size; have := hb2.size; omega
        intro v' w3 hown3 hgr _
        have hO3 : OwnInts w3 w.heap.size v' (endsL l (k + 1)) := by
          rw [endsL_succ, hend.out]
          exact OwnInts.snoc rfl (by rw [hel.out]; omega) hown3
        have hbl3 : Below w.heap.size w w3 := by
          have h4 := hb.trans (hb2.mono hb.size)
          have h5 := h4.alloc h4.size (.cells #[.int .i64 (s2.size : Int)] 3)
          exact h5.grown hgr h5.size fun g hg => hown.out.own hg
        replace hown3 := Lib.hid hown3
        clear hgr
        go_wp2_with fail
        go_roundg (100 - (k + 1))
        case measure => omega
        case rel => exact ⟨k + 1, s2, by omega, by omega, rfl, by go_num, rfl, hs3.out, hno2.out, hO3, hbl3⟩
    · have hLk : (l.take k).length = k := by rw [List.length_take]; omega
      obtain ⟨L, hL⟩ : ∃ L, l.take k = L := ⟨_, rfl⟩
      rw [hL] at hst hno hLk htl
      have hpre : ∀ (i : Nat) (x : Deed), L[i]? = some x → l[i]? = some x := fun i x hx => by
        have hi : i < k := by have := (List.getElem?_eq_some_iff.1 hx).1; omega
        rw [← hL, List.getElem?_take_of_lt hi] at hx
        exact hx
      have hends : endsL l k = endsL L k := by
        unfold endsL
        refine List.map_congr_left fun i hi => ?_
        have := List.mem_range.1 hi
        rw [← hL, List.take_take, Nat.min_eq_left (by omega)]
      rw [hends] at hown
      clear hends
      replace hL := Lib.hid hL
      obtain ⟨N, hN⟩ : ∃ N, st.size = N := ⟨_, rfl⟩
      have hNt : (text L).length = N := by rw [← hN, hst, str_size]
      have hN2 : N ≤ 2800 := by omega
      obtain ⟨r, hr⟩ : ∃ r, cut.tmod ((N : Int) + 1) = r := ⟨_, rfl⟩
      have hrb : -(N : Int) ≤ r ∧ r ≤ N := by
        have h2 : (cut.tmod ((N : Int) + 1)).natAbs < ((N : Int) + 1).natAbs := by rw [Int.natAbs_tmod]; exact Nat.mod_lt _ (by omega)
        rw [← hr]
        omega
      obtain ⟨c, hc⟩ : ∃ c : Nat, (r + N + 1) % ((N : Int) + 1) = c := ⟨((r + N + 1) % ((N : Int) + 1)).toNat, by have := Int.emod_nonneg (r + N + 1) (b := (N : Int) + 1) (by omega); omega⟩
      have hcN : c ≤ N := by
        have := Int.emod_lt_of_pos (r + N + 1) (b := (N : Int) + 1) (by omega)
        omega
      obtain ⟨sc, hsc⟩ : ∃ sc, st.extract 0 c = sc := ⟨_, rfl⟩
      have hscd : sc.data.toList = (text L).take c := by rw [← hsc, Lib.extract_data, hst, str_data]; rfl
      have hscz : sc.size ≤ 16777216 := by
        have : sc.size = sc.data.toList.length := by simp
        rw [this, hscd, List.length_take]; omega
      have cR := fun w => read_any sc w hscz
      unfold ReadPost at cR
      rw [hscd, rd_wholes L c hno] at cR
      have hWl := wholes_le L c
      have hwe := wholes_end L c
      rw [hLk] at hWl hwe
      obtain ⟨W, hW⟩ : ∃ W, wholes L c = W := ⟨_, rfl⟩
      rw [hW] at hWl hwe cR
      have hlW : (L.take W).length = W := by rw [List.length_take]; omega
      have hcn : (c : Int) ≤ (N : Int) := by omega
      obtain ⟨iv, icap, rfl, hin, _⟩ := hown.at_
      have hel := endsL_len L k
      rw [hel]
      replace cR := Lib.hid cR
      replace hst := Lib.hid hst
      replace hno := Lib.hid hno
      replace hNt := Lib.hid hNt
      replace hLk := Lib.hid hLk
      replace hscd := Lib.hid hscd
      replace hW := Lib.hid hW
      replace hwe := Lib.hid hwe
      replace hpre := Lib.hid hpre
      replace hlW := Lib.hid hlW
      replace hel := Lib.hid hel
      clear hown
      go_wp2_with fail
      all_goals
        refine (cR.out _).mono ?_
        rintro e w1 ⟨⟨v3, rfl, hown3⟩, hb1⟩
        obtain ⟨a3, cap3, rfl, hat3, _⟩ := hown3.at_
        clear hown3
        have hin1 := hin.below hb1
        have hat4 := hat1.below hb1
        have hbb : Below w.heap.size w w1 := hb.trans (hb1.mono hb.size)
        rw [hlW.out]
        go_wp2_with fail
        go_loopg [12, 13, 14, 15, 68] k (fun g s12 s13 _ _ s68 wr => ∃ (i m e : Nat), i ≤ k ∧ g = k - i ∧ s68 = .int .i64 i ∧ s12 = .int .i64 m ∧ m = min i W ∧ s13 = .int .i64 e ∧ e = (text (L.take m)).length ∧ wr = w1)
        case atStart => exact ⟨0, 0, 0, by omega, rfl, rfl, rfl, by omega, rfl, rfl, rfl⟩
        case round =>
          obtain ⟨i, m, e, hik, rfl, rfl, rfl, hm, rfl, he, rfl⟩ := hrel
          replace hm := Lib.hid hm
          replace he := Lib.hid he
          by_cases h6 : i < k
          · have h6d : decide ((i : Int) < (k : Int)) = true := decide_eq_true (by omega)
            have hge := endsL_get (l := L) h6
            obtain ⟨bi, oi, rfl, _, hci⟩ := hin1.row (by rw [hel.out]; omega)
            have hcell := hci i _ hge
            obtain ⟨E, hE⟩ : ∃ E, (text (L.take (i + 1))).length = E := ⟨_, rfl⟩
            rw [hE] at hcell
            have hwi := hwe.out i h6
            rw [hE] at hwi
            replace hge := Lib.hid hge
            replace hE := Lib.hid hE
            clear hci
            by_cases h7 : i < W
            · have hEc := hwi.2 h7
              clear hwi
              go_wp2_with fail
              go_roundg (k - (i + 1))
              case measure => omega
              case rel => exact ⟨i + 1, i + 1, E, by omega, rfl, by go_num, by go_num, by omega, rfl, hE.out.symm, rfl⟩
            · have hEc : c < E := Nat.lt_of_not_le fun h => h7 (hwi.1 h)
              clear hwi
              go_wp2_with fail
              go_roundg (k - (i + 1))
              case measure => omega
              case rel => exact ⟨i + 1, m, e, by omega, rfl, by go_num, rfl, by have := hm.out; omega, rfl, he.out, rfl⟩
          · have h6d : decide ((i : Int) < (k : Int)) = false := decide_eq_false (by omega)
            obtain rfl : m = W := by have := hm.out; omega
            rw [← he.out]
            replace hin1 := Lib.hid hin1
            go_wp2_with fail
            go_loopg [16, 91] m (fun g _ s91 wr => ∃ j : Nat, j ≤ m ∧ g = m - j ∧ s91 = .int .i64 j ∧ Below w.heap.size w wr ∧ ActsAt wr a3 cap3 (L.take m) ∧ ActsAt wr a cap l)
            case atStart => exact ⟨0, by omega, rfl, rfl, hbb, hat3, hat4⟩
            case round =>
              clear hat3 hat4 hbb hb1 hat1 hb
              obtain ⟨j, hj, rfl, rfl, hbx, hatx, haty⟩ := hrel
              by_cases h8 : j < m
              · have h8d : decide ((j : Int) < (m : Int)) = true := decide_eq_true (by omega)
                have hml2 : (j : Int) < (l.length : Int) := by omega
                obtain ⟨p, hpk⟩ : ∃ p, (L.take m)[j]? = some p := ⟨(L.take m)[j]'(by have := hlW.out; omega), List.getElem?_eq_getElem (by have := hlW.out; omega)⟩
                have hpl : l[j]? = some p := by
                  refine hpre.out j p ?_
                  rw [List.getElem?_take_of_lt h8] at hpk
                  exact hpk
                have hll : l.length ≠ 0 := by omega
                obtain ⟨b1, o1, rfl, _, _⟩ := hatx.row (by rw [hlW.out]; omega)
                obtain ⟨b2, o2, rfl, _, _⟩ := haty.row (by omega)
                obtain ⟨x0, x1, x2, x3, x4⟩ := hatx.five hpk
                obtain ⟨y0, y1, y2, y3, y4⟩ := haty.five hpl
                have hq := neq_act5 p.kind p.a p.b p.c p.n
                have hatn : ∀ n, ActsAt (wr.drewN n) (some ⟨b1, o1, none⟩) cap3 (L.take m) := fun n => hatx.below (below_drewN (Below.refl _ _) n)
                have hatm : ∀ n, ActsAt (wr.drewN n) (some ⟨b2, o2, none⟩) cap l := fun n => haty.below (below_drewN (Below.refl _ _) n)
                replace hatn := Lib.hid hatn
                replace hatm := Lib.hid hatm
                clear hatx haty hpk hpl
                go_wp2_with fail
                go_quiet (fail)
                go_wp2_with fail
                go_roundg (m - (j + 1))
                case measure => omega
                case rel => exact ⟨j + 1, by omega, rfl, by go_num, below_drewN hbx _, hatn.out _, hatm.out _⟩
              · have h8d : decide ((j : Int) < (m : Int)) = false := decide_eq_false (by omega)
                go_wp2_with (go_at_call 41; refine (booksK_any _).mono ?_; rintro e w3 ⟨rfl, hb3⟩)
                go_ret
                exact ⟨rfl, hbx.trans (hb3.mono hbx.size)⟩
end Go.Proofs.Ytggfdkkhlokmlaa
