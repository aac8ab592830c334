/- The reference's FrameOf. -/
import Derived.Test.YtggfdkkhlokmlaaRef2
import Derived.Test.YtggfdkkhlokmlaaCalm
import Derived.Deep.RegionWith
import Derived.Deep.Cut
namespace Go.Proofs.Ytggfdkkhlokmlaa
open Go.RowKit
attribute [local go_sem] conv1 conv_new dc_size dc_0 dc_1 dc_2 dc_3 dc_4
/-- What the two Frame functions return. -/
def framed (x : Deed) : List UInt8 × Int := if noted x then (frame x, 0) else ([], 3)
set_option maxRecDepth 100000 in
set_option maxHeartbeats 2000000 in
theorem frameOf_no (x : Deed) (w : World) (hn : noted x = false) :
    Calls Try.prog 34 #[.agg (dc x)] w fun e w' => e = .returned (.tuple #[.string (str (framed x).1), .int .i64 (framed x).2]) ∧ Below w.heap.size w w' := by
  have hN : ∀ w, Calls Try.prog 38 #[.agg (dc x)] w fun e w' => e = .returned (.bool false) ∧ Below w.heap.size w w' := by
    rw [← hn]; exact fun w => isNoted_any x w
  have hf : framed x = ([], 3) := by simp [framed, hn]
  replace hN := Lib.hid hN
  replace hf := Lib.hid hf
  go_enter Try.func34, Try.ntmps34
  go_wp2_with (first | go_skip | (go_at_call 38; refine (hN.out _).mono ?_; rintro e w1 ⟨rfl, hb1⟩) | (refine ld_row 44 _ rfl rfl _ rfl _ _ _ _ (hnew _ _) Try.underlying44 rfl info44 ?_))
  go_ret2
  exact ⟨by rw [hf.out]; rfl, ((Below.refl w.heap.size w).alloc (Nat.le_refl _) _).trans (hb1.mono (by rw [alloc_size]; omega))⟩
set_option maxRecDepth 100000 in
set_option maxHeartbeats 2000000 in
theorem frameOf_yes (x : Deed) (w : World) (hn : noted x = true) :
    Calls Try.prog 34 #[.agg (dc x)] w fun e w' => e = .returned (.tuple #[.string (str (framed x).1), .int .i64 (framed x).2]) ∧ Below w.heap.size w w' := by
  have hN : ∀ w, Calls Try.prog 38 #[.agg (dc x)] w fun e w' => e = .returned (.bool true) ∧ Below w.heap.size w w' := by
    rw [← hn]; exact fun w => isNoted_any x w
  have hf : framed x = (frame x, 0) := by simp [framed, hn]
  replace hN := Lib.hid hN
  replace hf := Lib.hid hf
  go_enter Try.func34, Try.ntmps34
  go_wp2_with (first | go_skip | (go_at_call 38; refine (hN.out _).mono ?_; rintro e w1 ⟨rfl, hb1⟩) | (refine ld_row 44 _ rfl rfl _ rfl _ _ _ _ (hnew _ _) Try.underlying44 rfl info44 ?_))
  have hgX : w1.heap[w.heap.size]? = some (.cells (dc x) 44 (0, 0)) := hkeep hb1 (hnew _ _)
  have hB : Below w.heap.size w w1 := ((Below.refl w.heap.size w).alloc (Nat.le_refl _) _).trans (hb1.mono (by rw [alloc_size]; omega))
  clear hb1
  obtain ⟨n0, n1, n2, n3, n4⟩ := noted_of hn
  have l0 := enc_zig_len n0
  have l1 := enc_zig_len n1
  have l2 := enc_zig_len n2
  have l3 := enc_zig_len n3
  have l4 := enc_zig_len n4
  have hbody : body x = enc (zig x.kind) ++ (enc (zig x.a) ++ (enc (zig x.b) ++ (enc (zig x.c) ++ enc (zig x.n)))) := rfl
  have z0 : (str (enc (zig x.kind))).size ≤ 5 := by rw [str_size]; exact l0
  have z1 : (str (enc (zig x.a))).size ≤ 5 := by rw [str_size]; exact l1
  have z2 : (str (enc (zig x.b))).size ≤ 5 := by rw [str_size]; exact l2
  have z3 : (str (enc (zig x.c))).size ≤ 5 := by rw [str_size]; exact l3
  have z4 : (str (enc (zig x.n))).size ≤ 5 := by rw [str_size]; exact l4
  have a1 : str (enc (zig x.kind)) ++ str (enc (zig x.a)) = str (enc (zig x.kind) ++ enc (zig x.a)) := str_app _ _
  have a2 : str (enc (zig x.kind) ++ enc (zig x.a)) ++ str (enc (zig x.b)) = str (enc (zig x.kind) ++ (enc (zig x.a) ++ enc (zig x.b))) := by rw [str_app]; simp
  have a3 : str (enc (zig x.kind) ++ (enc (zig x.a) ++ enc (zig x.b))) ++ str (enc (zig x.c)) = str (enc (zig x.kind) ++ (enc (zig x.a) ++ (enc (zig x.b) ++ enc (zig x.c)))) := by rw [str_app]; simp
  have a4 : str (enc (zig x.kind) ++ (enc (zig x.a) ++ (enc (zig x.b) ++ enc (zig x.c)))) ++ str (enc (zig x.n)) = str (body x) := by rw [str_app, hbody]; simp
  have y1 : (str (enc (zig x.kind) ++ enc (zig x.a))).size ≤ 10 := by rw [str_size]; simp only [List.length_append]; omega
  have y2 : (str (enc (zig x.kind) ++ (enc (zig x.a) ++ enc (zig x.b)))).size ≤ 15 := by rw [str_size]; simp only [List.length_append]; omega
  have y3 : (str (enc (zig x.kind) ++ (enc (zig x.a) ++ (enc (zig x.b) ++ enc (zig x.c))))).size ≤ 20 := by rw [str_size]; simp only [List.length_append]; omega
  replace hbody := Lib.hid hbody
  have hcs := calm_cells hgX
  replace hgX := Lib.hid hgX
  refine calm_region (Below w1.heap.size w1) (by kernel_rfl) (by kernel_rfl) (calm_start _) ?_
  repeat (first | go_big_quiet_skip | (go_big_quiet_want; (go_big_quiet_op; first | go_big_quiet_on | go_big_quiet_call (first | (go_at_call 67; exact calm_call (calm_below _) (numberText_any _ _ (by assumption)))))))
  refine wpQuiet_nil ?_
  intro w2 hI
  have hB2 : Below w.heap.size w w2 := hB.trans (hI.mono hB.size)
  clear hI hcs hB a1 a2 a3 a4 y1 y2 y3
  have hbl := body_len hn
  have hbs : (str (body x)).size = (body x).length := str_size _
  have hS := fun w => sums_any (str (body x)) w (by rw [str_size]; omega)
  rw [str_data] at hS
  obtain ⟨n, hnn⟩ : ∃ n, (body x).length = n := ⟨_, rfl⟩
  have hfr : frame x = UInt8.ofNat n :: (body x ++ [UInt8.ofNat (ck (body x)).1, UInt8.ofNat (ck (body x)).2]) := by rw [← hnn]; rfl
  rw [hnn] at hbl hbs
  have h256 : n < 256 := by omega
  have hw8 : IntKind.u8.wrap (n : Int) = n := IntWalk.u8_in _ (by omega)
  have c1 : (str [UInt8.ofNat n]).size = 1 := rfl
  have c2 : str [UInt8.ofNat n] ++ str (body x) = str (UInt8.ofNat n :: body x) := str_app _ _
  have c3 : (str (UInt8.ofNat n :: body x)).size ≤ 26 := by rw [str_size]; simp only [List.length_cons]; omega
  have c4 : (str [UInt8.ofNat (ck (body x)).1, UInt8.ofNat (ck (body x)).2]).size = 2 := rfl
  have c5 : str (UInt8.ofNat n :: body x) ++ str [UInt8.ofNat (ck (body x)).1, UInt8.ofNat (ck (body x)).2] = str (frame x) := by rw [str_app, hfr]; rfl
  replace hfr := Lib.hid hfr
  replace hS := Lib.hid hS
  replace hnn := Lib.hid hnn
  clear n0 n1 n2 n3 n4 l0 l1 l2 l3 l4 z0 z1 z2 z3 z4
  go_wp2_with fail
  have hcv0 : (convert 74 9 (.slice (some ⟨w2.heap.size, 0, none⟩) 1 1)).run Try.prog ((w2.alloc (.cells #[.int .u8 n] 5)).drew) = .ok (.string (str [UInt8.ofNat n])) ((w2.alloc (.cells #[.int .u8 n] 5)).drew) := conv1 _ _ n h256 (cells_at (hnew w2 (.cells #[.int .u8 n] 5)) 0)
  go_region_with (go_at_call 68; refine (hS.out _).mono ?_; rintro e w3 ⟨rfl, hb3⟩; try (have hcv := conv1 w3 w2.heap.size n h256 ((hb3.cell (p := ⟨w2.heap.size, 0, none⟩) (hlt (hnew w2 (.cells #[.int .u8 n] 5)))).trans (cells_at (hnew w2 (.cells #[.int .u8 n] 5)) 0))))
  all_goals go_wp2_with fail
  all_goals go_ret2
  all_goals refine ⟨by rw [hf.out]; rfl, ?_⟩
  all_goals
    have h4 := (hB2.alloc hB2.size (.cells #[.int .u8 n] 5)).drew
    first
      | exact h4.trans (hb3.mono h4.size)
      | exact (hB2.drew.trans (hb3.mono hB2.drew.size)).alloc (Nat.le_trans hB2.drew.size hb3.size) _
theorem frameOf_any (x : Deed) (w : World) :
    Calls Try.prog 34 #[.agg (dc x)] w fun e w' => e = .returned (.tuple #[.string (str (framed x).1), .int .i64 (framed x).2]) ∧ Below w.heap.size w w' := by
  cases hn : noted x
  · exact frameOf_no x w hn
  · exact frameOf_yes x w hn
end Go.Proofs.Ytggfdkkhlokmlaa
