/- Does book answer at all; are two rows of acts alike. -/
import Derived.Test.YtggfdkkhlokmlaaFrame1
import Derived.Test.YtggfdkkhlokmlaaLogMath
import Derived.Deep.QuietTactic
namespace Go.Proofs.Ytggfdkkhlokmlaa
open Go.RowKit
attribute [local go_sem] dc_size
theorem neq_act5 (x0 x1 x2 x3 x4 : Int) (w : World) : (binOp .neq 44 (.agg #[.int .i64 x0, .int .i64 x1, .int .i64 x2, .int .i64 x3, .int .i64 x4]) (.agg #[.int .i64 x0, .int .i64 x1, .int .i64 x2, .int .i64 x3, .int .i64 x4])).run Try.prog w = .ok (.bool false) w := by
  have h := eqStruct (t := 44) 9998 #[.int .i64 x0, .int .i64 x1, .int .i64 x2, .int .i64 x3, .int .i64 x4] 5 (fun i hi => by rcases i with _ | _ | _ | _ | _ | i <;> first | exact ⟨_, rfl⟩ | omega) (by kernel_rfl) (by kernel_rfl) (by kernel_rfl) w
  rw [run_neq_struct, h]; rfl
theorem ActsAt.five {w : World} {b off cap : Nat} {l : List Deed} (h : ActsAt w (some ⟨b, off, none⟩) cap l) {i : Nat} {p : Deed} (hp : l[i]? = some p) :
    w.cell? ⟨b, off + i * 5, none⟩ = some (.int .i64 p.kind) ∧ w.cell? ⟨b, off + i * 5 + 1, none⟩ = some (.int .i64 p.a) ∧ w.cell? ⟨b, off + i * 5 + 2, none⟩ = some (.int .i64 p.b) ∧ w.cell? ⟨b, off + i * 5 + 3, none⟩ = some (.int .i64 p.c) ∧ w.cell? ⟨b, off + i * 5 + 4, none⟩ = some (.int .i64 p.n) := by
  have h0 : 0 < l.length := by have := (List.getElem?_eq_some_iff.1 hp).1; omega
  obtain ⟨b', off', e, _, hc⟩ := h.row h0
  cases e
  have := hc i p hp
  exact ⟨this 0 _ (dc_0 p), this 1 _ (dc_1 p), this 2 _ (dc_2 p), this 3 _ (dc_3 p), this 4 _ (dc_4 p)⟩
set_option maxHeartbeats 2000000 in
theorem sameActs_eq (l : List Deed) (a b : Option Addr) (cap cap' : Nat) (w : World) (ha : ActsAt w a cap l) (hb : ActsAt w b cap' l) :
    Calls Try.prog 39 #[.slice a l.length cap, .slice b l.length cap'] w fun e w' => e = .returned (.bool true) ∧ Below w.heap.size w w' := by
  have hml : l.length ≤ 9223372036854775807 := by have h1 := ha.le; have h2 := ha.capm; unfold maxLen at h2; omega
  go_enter Try.func39, Try.ntmps39
  go_wp2
  go_loopg [5, 13] l.length (fun g _ i wr => ∃ k : Nat, k ≤ l.length ∧ g = l.length - k ∧ i = .int .i64 k ∧ Below w.heap.size w wr)
  case atStart => exact ⟨0, by omega, rfl, rfl, Below.refl _ _⟩
  case round =>
    obtain ⟨k, hk, rfl, rfl, hbw⟩ := hrel
    by_cases h4 : k < l.length
    · obtain ⟨p, hpk⟩ : ∃ p, l[k]? = some p := ⟨l[k], List.getElem?_eq_getElem h4⟩
      obtain ⟨b1, o1, rfl, _, _⟩ := ha.row (by omega)
      obtain ⟨b2, o2, rfl, _, _⟩ := hb.row (by omega)
      obtain ⟨x0, x1, x2, x3, x4⟩ := (ha.below hbw).five hpk
      obtain ⟨y0, y1, y2, y3, y4⟩ := (hb.below hbw).five hpk
      have hq := neq_act5 p.kind p.a p.b p.c p.n
      clear ha hb hpk
      go_wp2
      go_quiet (fail)
      go_wp2
      go_roundg (l.length - (k + 1))
      case measure => omega
      case rel => exact ⟨k + 1, by omega, rfl, by go_num, below_drewN hbw _⟩
    · have hd : decide ((k : Int) < l.length) = false := by simp; omega
      go_wp2
      go_ret
      exact ⟨rfl, hbw⟩
set_option maxRecDepth 100000 in
set_option maxHeartbeats 2000000 in
theorem booksL_any (w : World) : Calls Try.prog 40 #[] w fun e w' => e = .returned (.bool true) ∧ Below w.heap.size w w' := by
  obtain ⟨x, hx⟩ : ∃ x : Deed, x = ⟨6, 1, 0, 0, 100⟩ := ⟨_, rfl⟩
  have hn : noted x = true := by rw [hx]; decide
  have hd : (.agg #[.int .i64 6, .int .i64 1, .int .i64 0, .int .i64 0, .int .i64 100] : Value) = .agg (dc x) := by rw [hx]; rfl
  have hx100 : x.n = 100 := by rw [hx]
  have hfr : framed x = (frame x, 0) := by simp [framed, hn]
  have hbl := body_len hn
  have hfl := frame_len x
  obtain ⟨k, hk⟩ : ∃ k, (frame x).length = k := ⟨_, rfl⟩
  obtain ⟨sf, hsf⟩ : ∃ sf, str (frame x) = sf := ⟨_, rfl⟩
  have hsz : sf.size = k := by rw [← hsf, str_size]; exact hk
  have hkb : k ≤ 28 := by omega
  have cF := fun w => frame_any x w
  rw [hfr] at cF
  simp only [hsf] at cF
  obtain ⟨s2, hs2⟩ : ∃ s2, sf ++ sf = s2 := ⟨_, rfl⟩
  have hz2 : s2.size ≤ 56 := by rw [← hs2, ByteArray.size_append]; omega
  obtain ⟨s3, hs3⟩ : ∃ s3, s2 ++ (⟨#[120]⟩ : ByteArray) = s3 := ⟨_, rfl⟩
  have hz3 : s3.size ≤ 57 := by rw [← hs3, ByteArray.size_append]; show _ + 1 ≤ _; omega
  have h120 : (⟨#[120]⟩ : ByteArray).size = 1 := rfl
  have hL : s3.data.toList = text [x, x] ++ [120] := by
    rw [← hs3, ← hs2, ← hsf, str_app, show (⟨#[120]⟩ : ByteArray) = str [120] from rfl, str_app, str_data]; simp [text]
  have hrd : rd s3.data.toList = ([x, x], k + k) := by
    rw [hL, rd_app _ _ (by simp [hn]), rd_none (by rfl)]
    simp [text, hk]
  have cR := read_any s3
  unfold ReadPost at cR
  rw [hrd] at cR
  replace cF := Lib.hid cF
  replace cR := fun w => Lib.hid (cR w (by omega))
  replace hx := Lib.hid hx
  replace hx100 := Lib.hid hx100
  replace hfr := Lib.hid hfr
  replace hfl := Lib.hid hfl
  replace hk := Lib.hid hk
  replace hsf := Lib.hid hsf
  replace hL := Lib.hid hL
  replace hrd := Lib.hid hrd
  replace hn := Lib.hid hn
  go_enter Try.func40, Try.ntmps40
  go_wp2_with fail
  refine (cF.out _).mono ?_
  rintro e w1 ⟨rfl, hb1⟩
  go_wp2_with fail
  refine (cR _).out.mono ?_
  rintro e w2 ⟨⟨v, rfl, hown⟩, hb2⟩
  obtain ⟨a, cap, rfl, hat, _⟩ := hown.at_
  obtain ⟨b, off, rfl, _, _⟩ := hat.row (by show 0 < 2; omega)
  have hc := (hat.five (i := 1) rfl).2.2.2.2
  rw [hx100.out] at hc
  have hle := hat.le
  have h22 : ((([x, x] : List Deed).length : Nat) : Int) = 2 := rfl
  replace hown := Lib.hid hown
  replace hat := Lib.hid hat
  go_wp2_with fail
  go_ret
  exact ⟨rfl, hb1.trans (hb2.mono hb1.size)⟩
set_option maxRecDepth 100000 in
set_option maxHeartbeats 2000000 in
theorem booksK_any (w : World) : Calls Try.prog 41 #[] w fun e w' => e = .returned (.bool true) ∧ Below w.heap.size w w' := by
  obtain ⟨x, hx⟩ : ∃ x : Deed, x = ⟨6, 1, 0, 0, 100⟩ := ⟨_, rfl⟩
  have hn : noted x = true := by rw [hx]; decide
  have hd : (.agg #[.int .i64 6, .int .i64 1, .int .i64 0, .int .i64 0, .int .i64 100] : Value) = .agg (dc x) := by rw [hx]; rfl
  have hx100 : x.n = 100 := by rw [hx]
  have hfr : framed x = (frame x, 0) := by simp [framed, hn]
  have hbl := body_len hn
  have hfl := frame_len x
  obtain ⟨k, hk⟩ : ∃ k, (frame x).length = k := ⟨_, rfl⟩
  obtain ⟨sf, hsf⟩ : ∃ sf, str (frame x) = sf := ⟨_, rfl⟩
  have hsz : sf.size = k := by rw [← hsf, str_size]; exact hk
  have hkb : k ≤ 28 := by omega
  have cF := fun w => frame_any x w
  rw [hfr] at cF
  simp only [hsf] at cF
  obtain ⟨s2, hs2⟩ : ∃ s2, sf ++ sf = s2 := ⟨_, rfl⟩
  have hz2 : s2.size ≤ 56 := by rw [← hs2, ByteArray.size_append]; omega
  obtain ⟨s3, hs3⟩ : ∃ s3, s2 ++ (⟨#[120]⟩ : ByteArray) = s3 := ⟨_, rfl⟩
  have hz3 : s3.size ≤ 57 := by rw [← hs3, ByteArray.size_append]; show _ + 1 ≤ _; omega
  have h120 : (⟨#[120]⟩ : ByteArray).size = 1 := rfl
  have hL : s3.data.toList = text [x, x] ++ [120] := by
    rw [← hs3, ← hs2, ← hsf, str_app, show (⟨#[120]⟩ : ByteArray) = str [120] from rfl, str_app, str_data]; simp [text]
  have hrd : rd s3.data.toList = ([x, x], k + k) := by
    rw [hL, rd_app _ _ (by simp [hn]), rd_none (by rfl)]
    simp [text, hk]
  have cR := read_any s3
  unfold ReadPost at cR
  rw [hrd] at cR
  replace cF := Lib.hid cF
  replace cR := fun w => Lib.hid (cR w (by omega))
  replace hx := Lib.hid hx
  replace hx100 := Lib.hid hx100
  replace hfr := Lib.hid hfr
  replace hfl := Lib.hid hfl
  replace hk := Lib.hid hk
  replace hsf := Lib.hid hsf
  replace hL := Lib.hid hL
  replace hrd := Lib.hid hrd
  replace hn := Lib.hid hn
  go_enter Try.func41, Try.ntmps41
  go_wp2_with fail
  refine (cF.out _).mono ?_
  rintro e w1 ⟨rfl, hb1⟩
  go_wp2_with fail
  refine (cR _).out.mono ?_
  rintro e w2 ⟨⟨v, rfl, hown⟩, hb2⟩
  obtain ⟨a, cap, rfl, hat, _⟩ := hown.at_
  obtain ⟨b, off, rfl, _, _⟩ := hat.row (by show 0 < 2; omega)
  have hc := (hat.five (i := 1) rfl).2.2.2.2
  rw [hx100.out] at hc
  have hle := hat.le
  have h22 : ((([x, x] : List Deed).length : Nat) : Int) = 2 := rfl
  replace hown := Lib.hid hown
  replace hat := Lib.hid hat
  go_wp2_with fail
  go_ret
  exact ⟨rfl, hb1.trans (hb2.mono hb1.size)⟩
end Go.Proofs.Ytggfdkkhlokmlaa
