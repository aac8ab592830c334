/- alive: does a bank answer at all. -/
import Derived.Test.YtggfdkkhlokmlabDoAny
import Derived.Test.YtggfdkkhlokmlabAliveMath
namespace Go.Proofs.Ytggfdkkhlokmlab
open Go.RowKit
attribute [local go_sem] rc_0 rc_1 rc_2 rc_size
theorem house_accs (h : Hs) (v : Value) (w : World) : (Instr.field 29 (.agg (hc h v)) 0).run Try.prog w = .ok (.agg (accs h)) w := by kernel_rfl
theorem accs_one (h : Hs) (w : World) : (Instr.index 24 (.agg (accs h)) (.int .i64 1)).run Try.prog w = .ok (.agg #[.int .i64 (h.has 1), .int .i64 (h.cr 1)]) w := by kernel_rfl
theorem acc_has (a b : Int) (w : World) : (Instr.field 23 (.agg #[.int .i64 a, .int .i64 b]) 0).run Try.prog w = .ok (.int .i64 a) w := by kernel_rfl
attribute [local go_sem] house_accs accs_one acc_has
theorem actP_cells : (.agg #[.int .i64 1, .int .i64 0, .int .i64 1, .int .i64 0, .int .i64 7] : Value) = .agg (dc actP) := rfl
theorem actF_cells : (.agg #[.int .i64 6, .int .i64 0, .int .i64 0, .int .i64 0, .int .i64 7] : Value) = .agg (dc actF) := rfl
theorem str_ne {t : List UInt8} (h : t ≠ []) : (str t).toList.isEmpty = false := by
 rw [ByteArray.toList_eq, str_data]
 cases t with
 | nil => exact absurd rfl h
 | cons _ _ => rfl
set_option maxRecDepth 100000 in
set_option maxHeartbeats 4000000 in
theorem aliveT_any (w : World) : Calls Try.prog 50 #[] w fun e w' => e = .returned (.bool true) ∧ Below w.heap.size w w' := by
 have hne := str_ne BA2_text
 have h17 := BA2_has
 have hd : BA2.down = false := rfl
 have cD1 := fun p av w hB hav => do_any p av Bk.new actP w hB hav (by simp [Bk.new]) (by simp [Bk.new])
 rw [doA1] at cD1
 have hA1 := frame_le (x := actP) (by decide)
 have hA2 := frame_le (x := actF) (by decide)
 have cD2 := fun p av w hB hav => do_any p av BA1 actF w hB hav (by simp only [BA1]; omega) (by simp [BA1])
 rw [doA2] at cD2
 obtain ⟨B2, hB2⟩ : ∃ B, BA2 = B := ⟨_, rfl⟩
 rw [hB2] at hne h17 hd cD2
 replace cD1 := Lib.hid cD1
 replace cD2 := Lib.hid cD2
 replace hB2 := Lib.hid hB2
 clear hA1 hA2
 go_enter Try.func50, Try.ntmps50
 go_upto_region 4 with (first | go_skip | (go_at_call 37; refine (bankNew_any _).mono ?_; rintro e w1 ⟨p, rfl, hpw, hbk, hb1⟩))
 have hk1 := hbk fun _ => False
 clear hbk
 go_upto_region 5 with (first | go_skip | (go_at_call 26; rw [actP_cells]; refine (cD1.out p _ _ hk1 (fun _ h => h.elim)).mono ?_; rintro e w2 ⟨v1, rfl, ho1, hk2, hO1⟩; have hv1 := ho1.one) | (go_at_call 26; rw [actF_cells]; refine (cD2.out p _ _ hk2 (fun x hx => hx.elim False.elim fun e => ints_own_lt ho1 e)).mono ?_; rintro e w3 ⟨v2, rfl, ho2, hk3, hO2⟩; have hv2 := ho2.one) | (refine st_row 44 _ _ rfl rfl _ rfl (rc 0 0 v1) rfl _ _ (heap_alloc2_old w3 _ _) infoRp rfl (rc_one _ _ _ hv1) ?_; intro wa hra hgra hsza) | (refine st_row 44 _ _ rfl rfl _ rfl (rc 0 0 v2) rfl _ _ ((hgra.block _ (by simp) (by simp)).trans (heap_alloc2_new w3 _ _)) infoRp rfl (rc_one _ _ _ hv2) ?_; intro wb hrb hgrb hszb))
 obtain ⟨al, cl, rfl, _, _⟩ := ho2.at_
 have hp3 : p < w3.heap.size := hk3.lt
 have hB3 : Below w.heap.size w w3 := ((only_new (av := fun b => w.heap.size ≤ b) hb1).step hO1 fun b e => by left; omega).trans (hO2.mono fun b _ e => by omega) |>.below (Nat.le_refl _) fun _ h => h
 have hB4 : Below w3.heap.size w3 wb := by
  have h4 : Below w3.heap.size w3 ((w3.alloc (.cells (rc 0 0 (.slice none 0 0)) 44)).alloc (.cells (rc 0 0 (.slice none 0 0)) 44)) := ((Below.refl _ _).alloc (Nat.le_refl _) _).alloc (by simp) _
  exact ((only_new (av := fun b => w3.heap.size ≤ b) h4).step (only_grown hgra) fun b e => by cases e; left; omega).step (only_grown hgrb) (fun b e => by cases e; left; omega) |>.below (Nat.le_refl _) fun _ h => h
 have hxb := (hgrb.block _ (hlt hra) (by simp)).trans hra
 have hk5 := hk3.below hB4
 have hB6 := bstep hB3 hB3.size hB4
 have hl : (nats [0]).length = 1 := rfl
 have cX := cells_at hxb
 have cY := cells_at hrb
 clear hB4 hra hgra hgrb hk3 hB3
 go_upto_region 6 with (first | go_skip | (go_at_call 24; refine (bankBook_any p _ B2 _ hk5).mono ?_; rintro e w6 ⟨rfl, hb6⟩))
 have hk6 := hk5.below hb6
 have cX6 := cells_at (hkeep hb6 hxb)
 have cY6 := cells_at (hkeep hb6 hrb)
 have hB7 := bstep hB6 hB6.size hb6
 clear cX cY hk5 hxb hrb hb6 hk1 hk2 hb1 ho1 ho2 hO1 hO2
 go_wp2_with (first | go_skip | (go_at_call 21; refine (bankHouse_any p _ B2 _ hk6).mono ?_; rintro e w7 ⟨⟨v7, rfl, _⟩, hb7⟩))
 go_ret
 exact ⟨rfl, bstep hB7 hB7.size hb7⟩
end Go.Proofs.Ytggfdkkhlokmlab


