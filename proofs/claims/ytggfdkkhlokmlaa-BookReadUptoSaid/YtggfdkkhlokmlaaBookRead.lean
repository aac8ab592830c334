/- BookRead: the walk. -/
import Derived.Test.YtggfdkkhlokmlaaBookTells
namespace Go.Proofs.Ytggfdkkhlokmlaa
open Go.RowKit
attribute [local go_sem] dc_size
theorem text_take_le (l : List Deed) (k : Nat) : (text (l.take k)).length ≤ (text l).length := by
  have h : text l = text (l.take k) ++ text (l.drop k) := by rw [← text_app, List.take_append_drop]
  rw [h]; simp
theorem text_snoc {l : List Deed} {k : Nat} {p : Deed} (h : l[k]? = some p) : text (l.take (k + 1)) = text (l.take k) ++ frame p := by
  rw [take_snoc h, text_app, text_one]
theorem framed_noted {x : Deed} (h : noted x = true) : framed x = (frame x, 0) := by simp [framed, h]
set_option maxRecDepth 100000 in
set_option maxHeartbeats 4000000 in
theorem bookRead_any (s : ByteArray) (w : World) (hs : s.size ≤ 16777216) :
    Calls Try.prog 8 #[.string s] w fun e w' => e = .returned (.bool true) ∧ Below w.heap.size w w' := by
  have cR := fun w => read_any s w hs
  unfold ReadPost at cR
  obtain ⟨hT, hN⟩ := rd_text s.data.toList
  have hle := rd_le s.data.toList
  obtain ⟨l, hL⟩ : ∃ L, (rd s.data.toList).1 = L := ⟨_, rfl⟩
  obtain ⟨n, hn⟩ : ∃ k, (rd s.data.toList).2 = k := ⟨_, rfl⟩
  rw [hL, hn] at cR hT
  rw [hL] at hN
  rw [hn] at hle
  have hns : n ≤ s.size := by simpa using hle
  have htl : (text l).length ≤ 16777216 := by rw [hT, List.length_take]; omega
  replace cR := Lib.hid cR
  replace hT := Lib.hid hT
  replace hN := Lib.hid hN
  clear hL hn hle
  go_enter Try.func8, Try.ntmps8
  go_wp2_with fail
  refine (cR.out _).mono ?_
  rintro e w1 ⟨⟨v3, rfl, hown3⟩, hb1⟩
  obtain ⟨a, cap, rfl, hat, _⟩ := hown3.at_
  have hml : l.length ≤ 9223372036854775807 := by have h1 := hat.le; have h2 := hat.capm; unfold maxLen at h2; omega
  clear hown3
  go_wp2_with fail
  go_loopg [5, 7, 8, 9, 17] l.length (fun g t _ _ _ i wr => ∃ (k : Nat) (st : ByteArray), k ≤ l.length ∧ g = l.length - k ∧ i = .int .i64 k ∧ t = .string st ∧ st = str (text (l.take k)) ∧ ActsAt wr a cap l ∧ Below w.heap.size w wr)
  case atStart => exact ⟨0, _, by omega, rfl, rfl, rfl, rfl, hat, hb1⟩
  case round =>
    clear hat hb1
    obtain ⟨k, st, hk, rfl, rfl, rfl, hst, hat, hb⟩ := hrel
    obtain ⟨wo, rfl⟩ : ∃ wo : World, wo = wr := ⟨_, rfl⟩
    have hsz : st.size ≤ 16777216 := by rw [hst, str_size]; exact Nat.le_trans (text_take_le l k) htl
    by_cases h4 : k < l.length
    · obtain ⟨p, hpk⟩ : ∃ p, l[k]? = some p := ⟨l[k], List.getElem?_eq_getElem h4⟩
      have hpn := hN.out p (List.mem_of_getElem? hpk)
      have cF := fun w => frame_any p w
      rw [framed_noted hpn] at cF
      obtain ⟨sf, hsf⟩ : ∃ sf, str (frame p) = sf := ⟨_, rfl⟩
      simp only [hsf] at cF
      have hfs : sf.size ≤ 28 := by
        have := body_len hpn
        have := frame_len p
        rw [← hsf, str_size]; omega
      obtain ⟨s2, hs2⟩ : ∃ s2, st ++ sf = s2 := ⟨_, rfl⟩
      have hs3 : s2 = str (text (l.take (k + 1))) := by rw [text_snoc hpk, ← str_app, ← hs2, hst, hsf]
      obtain ⟨b1, o1, rfl, _, hc1⟩ := hat.row (by omega)
      have hcp : ∀ j v, (dc p)[j]? = some v → wo.cell? ⟨b1, o1 + k * 5 + j, none⟩ = some v := fun j v hv => by rw [Nat.add_assoc]; exact hc1 k p hpk j v hv
      replace cF := Lib.hid cF
      replace hcp := Lib.hid hcp
      replace hst := Lib.hid hst
      replace hs3 := Lib.hid hs3
      replace hpk := Lib.hid hpk
      replace hpn := Lib.hid hpn
      replace hsf := Lib.hid hsf
      clear hc1
      go_wp2_with (first | go_skip | (refine ld_cells 44 _ rfl rfl b1 (o1 + k * 5) rfl (dc p) _ Try.underlying44 rfl info44 hcp.out ?_) | (refine st_new 44 _ _ rfl wo 44 _ rfl rfl rfl _ rfl info44 rfl (dc_one p) ?_) | (refine ld_row 44 _ rfl rfl _ rfl _ _ _ _ (hnew _ _) Try.underlying44 rfl info44 ?_) | (go_at_call 33; refine (cF.out _).mono ?_; rintro e w2 ⟨rfl, hb2⟩))
      go_roundg (l.length - (k + 1))
      case measure => omega
      case rel =>
        have h5 := hb.alloc hb.size (.cells (dc p) 44)
        exact ⟨k + 1, s2, by omega, rfl, by go_num, rfl, hs3.out, (hat.alloc (.cells (dc p) 44)).below hb2, h5.trans (hb2.mono h5.size)⟩
    · have hd : decide ((k : Int) < l.length) = false := decide_eq_false (by omega)
      obtain ⟨sn, hsn⟩ : ∃ sn, s.extract 0 n = sn := ⟨_, rfl⟩
      have heq : st = sn := by
        rw [hst, List.take_of_length_le (by omega), hT.out, ← hsn]
        apply WideShapes.bytes_inj
        rw [str_data, Lib.extract_data]; rfl
      have hq : (st.toList == sn.toList) = true := by rw [heq]; exact beq_self_eq_true _
      have hni : (n : Int) ≤ (s.size : Int) := by omega
      have hn0 : (0 : Int) ≤ (n : Int) := by omega
      replace hst := Lib.hid hst
      replace heq := Lib.hid heq
      go_wp2_with (go_at_call 41; refine (booksK_any _).mono ?_; rintro e w2 ⟨rfl, hb2⟩)
      go_ret
      exact ⟨rfl, hb.trans (hb2.mono hb.size)⟩
end Go.Proofs.Ytggfdkkhlokmlaa
