/- book.Read: the walk. -/
import Derived.Test.YtggfdkkhlokmlaaActs
namespace Go.Proofs.Ytggfdkkhlokmlaa
open Go.RowKit
attribute [local go_sem] dc_size
theorem frame8 {s : List UInt8} {x : Deed} {k : Nat} (h : oneL s = some (x, k)) : 8 ≤ k := by
  obtain ⟨⟨h1, _⟩, h2, _⟩ := oneL_sound h
  have := body_len h1
  rw [h2, frame_len]; omega
def ReadPost (L : List UInt8) (w : World) (e : Ending) (w' : World) : Prop := (∃ v, e = .returned (.tuple #[v, .int .i64 ((rd L).2 : Nat)]) ∧ OwnActs w' w.heap.size v (rd L).1) ∧ Below w.heap.size w w'
set_option maxRecDepth 100000 in
set_option maxHeartbeats 4000000 in
theorem read_any (s : ByteArray) (w : World) (hs : s.size ≤ 16777216) : Calls Try.prog 35 #[.string s] w (ReadPost s.data.toList w) := by
  obtain ⟨i0, z, hi, hz0, hz1, hz2, hz3⟩ := info44z
  obtain ⟨L, hL⟩ : ∃ L, L = s.data.toList := ⟨_, rfl⟩
  rw [← hL]
  have hLl : L.length = s.size := by rw [hL]; simp
  replace hL := Lib.hid hL
  go_enter Try.func35, Try.ntmps35
  go_wp2
  go_loopg [4, 5] s.size (fun g a b wr => ∃ (n : Nat) (xs : List Deed), n ≤ s.size ∧ g = s.size - n ∧ b = .int .i64 n ∧ OwnActs wr w.heap.size a xs ∧ xs.length * 8 ≤ n ∧ rd L = (xs ++ (rd (L.drop n)).1, n + (rd (L.drop n)).2) ∧ Below w.heap.size w wr)
  case atStart => exact ⟨0, [], by omega, rfl, rfl, ⟨⟨rfl, .inl ⟨rfl, rfl⟩⟩, by simp⟩, by simp, by simp, Below.refl _ _⟩
  case round =>
    obtain ⟨n, xs, hn, rfl, rfl, hown, hxl, hD, hbl⟩ := hrel
    obtain ⟨wo, rfl⟩ : ∃ wo : World, wo = wr := ⟨_, rfl⟩
    obtain ⟨sd, hE⟩ : ∃ sd, s.extract n s.size = sd := ⟨_, rfl⟩
    obtain ⟨R, hR⟩ : ∃ R, R = L.drop n := ⟨_, rfl⟩
    have hsd : sd.data.toList = R := by rw [hR, ← hE, Lib.extract_data, ← hL.out, ← hLl]; exact List.take_of_length_le (by simp)
    have hRl : R.length = s.size - n := by rw [hR, List.length_drop, hLl]
    have hds : sd.size ≤ 140737488355328 := by
      have h1 : sd.size = sd.data.toList.length := by simp
      rw [h1, hsd, hRl]; omega
    have c1 : ∀ w, Calls Try.prog 69 #[.string sd] w fun e w' => e = .returned (.tuple #[.agg (dc (oneF R).1), .int .i64 (oneF R).2]) ∧ Below w.heap.size w w' := by
      rw [← hsd]; exact fun w => one_any sd w hds
    rw [← hR] at hD
    have hns : (n : Int) ≤ (s.size : Int) := by omega
    cases h1 : oneL R with
    | none =>
      rw [rd_none h1] at hD
      rw [oneF_none h1] at c1
      replace c1 := Lib.hid c1
      replace hD := Lib.hid hD
      replace hsd := Lib.hid hsd
      replace hR := Lib.hid hR
      replace hRl := Lib.hid hRl
      replace hLl := Lib.hid hLl
      replace h1 := Lib.hid h1
      go_wp2_with fail
      refine (c1.out _).mono ?_
      rintro e w1 ⟨rfl, hb1⟩
      go_wp2_with (first | go_skip | (refine st_new 44 _ _ rfl w1 44 _ rfl rfl rfl _ rfl info44 rfl (dc_one d0) ?_))
      go_ret2
      have hbb := hbl.trans ((hb1.alloc hb1.size (.cells (dc d0) 44)).mono hbl.size)
      refine ⟨⟨u4, ?_, ?_⟩, hbb⟩
      · rw [hD.out]; simp
      · rw [hD.out, List.append_nil]; exact hown.below (hb1.alloc hb1.size _)
    | some q =>
      obtain ⟨x, k⟩ := q
      rw [rd_some h1] at hD
      rw [oneF_some h1] at c1
      have hk := oneL_pos h1
      have h8 := frame8 h1
      have hnk : (n : Int) + k ≤ s.size := by omega
      replace c1 := Lib.hid c1
      replace hD := Lib.hid hD
      replace hsd := Lib.hid hsd
      replace hR := Lib.hid hR
      replace hRl := Lib.hid hRl
      replace hLl := Lib.hid hLl
      replace h1 := Lib.hid h1
      have hkz : ((k : Int) == 0) = false := by rw [beq_eq_false_iff_ne]; omega
      go_wp2_with fail
      refine (c1.out _).mono ?_
      rintro e w1 ⟨rfl, hb1⟩
      have hown1 : Hid (OwnActs ((w1.alloc (.cells (dc x) 44)).alloc (.cells (dc x) 44)) w.heap.size u4 xs) := (hown.below (hb1.alloc hb1.size _)).below ((Below.refl _ _).alloc (Nat.le_refl _) _)
      go_wp2_with (first | go_skip | (at_builtin; refine wpList_append_own _ rfl _ _ 48 rfl w.heap.size 44 i0 z 5 40 Try.underlying48 hi hz0 hz1 hz2 hz3 (by decide) u4 xs.length (flatD xs) rfl hown1.out.1 ⟨w1.heap.size + 1, 0, none⟩ 1 1 (dc x).toList rfl rfl ?c1 ?c2 ?c3 ?c4 ?c5 ?_) | (refine st_new 44 _ _ rfl w1 44 _ rfl rfl rfl _ rfl info44 rfl (dc_one x) ?_) | (refine ld_row 44 _ rfl rfl _ rfl _ _ _ _ (hnew w1 (.cells (dc x) 44)) Try.underlying44 rfl info44 ?_))
      case c1 =>
        suffices h : ∀ C, C = dc x → ∀ (j : Nat) (u : Value), (dc x).toList[j]? = some u → ((w1.alloc (.cells (dc x) 44)).alloc (.cells C 44)).cell? ((⟨w1.heap.size + 1, 0, none⟩ : Addr).add j) = some u from h _ rfl
        intro C hC
        subst hC
        have hh : ((w1.alloc (.cells (dc x) 44)).alloc (.cells (dc x) 44)).heap[w1.heap.size + 1]? = some (.cells (dc x) 44 (0, 0)) := by
          rw [← alloc_size w1 (.cells (dc x) 44)]; exact hnew _ _
        intro j u hu
        have hadd : (⟨w1.heap.size + 1, 0, none⟩ : Addr).add j = ⟨w1.heap.size + 1, 0 + j, none⟩ := by unfold Addr.add; split <;> simp_all
        rw [hadd, Nat.zero_add]
        exact (cells_at hh j).trans (by simpa using hu)
      case c2 => intro u hu; exact Array.all_eq_true_iff_forall_mem.1 (dc_one x) u (by simpa using hu)
      case c3 => simp only [maxLen]; omega
      case c4 => omega
      case c5 =>
        have h1 := hbl.size
        have h2 := hb1.size
        rw [alloc_size, alloc_size]
        omega
      intro v' w2 hown2 hgr _
      have hfl : flatD (xs ++ [x]) = flatD xs ++ (dc x).toList := by rw [flatD_append]; simp [flatD]
      have hO2 : OwnActs w2 w.heap.size v' (xs ++ [x]) := ⟨by rw [hfl]; simpa using hown2, by simp; omega⟩
      have hbl2 : Below w.heap.size w w2 := by
        suffices h : ∀ C, World.grownBy ((w1.alloc (.cells (dc x) 44)).alloc (.cells C 44)) w2 (Value.ownBlock u4) → C = dc x → Below w.heap.size w w2 from h _ hgr rfl
        intro C hgr hC
        subst hC
        have h3 : Below w.heap.size w ((w1.alloc (.cells (dc x) 44)).alloc (.cells (dc x) 44)) := by
          have h4 := (hb1.alloc hb1.size (.cells (dc x) 44))
          exact hbl.trans ((h4.alloc h4.size (.cells (dc x) 44)).mono hbl.size)
        refine h3.grown hgr h3.size fun g hg => ?_
        rcases hown.1.2 with ⟨rfl, _⟩ | ⟨g', cap, cur, rfl, hb', _⟩
        · simp [Value.ownBlock] at hg
        · simp [Value.ownBlock] at hg; omega
      replace hown2 := Lib.hid hown2
      replace hfl := Lib.hid hfl
      clear hgr hown1 hown
      go_wp2
      go_roundg (s.size - (n + k))
      case measure => omega
      case rel => exact ⟨n + k, xs ++ [x], by omega, rfl, by go_num, hO2, by simp; omega, by rw [hD.out, ← List.drop_drop, ← hR.out]; simp [Nat.add_assoc], hbl2⟩
end Go.Proofs.Ytggfdkkhlokmlaa
