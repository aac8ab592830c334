/- GoodPay, the reference's IsPay and sends: by cases on their conditions (written by gen_pay.py). -/
import Derived.Test.YtggfdkkhlokmlaaLedger
import Derived.WalkSpells
namespace Go.Proofs.Ytggfdkkhlokmlaa
open Go.RowKit
attribute [local go_sem] pc_0 pc_1 pc_2 pc_3 pc_4 pc_5 pc_size

/-- Is it a payment? -/
def goodPay (p : Pay) : Bool := sm 0 p.frm 3 && sm 0 p.to 3 && !(p.frm == p.to) && sm 1 p.amt 1000000 && sm 0 p.cls 2 && sm 1 p.st 3 && decide (0 ≤ p.seq)

set_option maxHeartbeats 1000000 in
theorem goodPay_any (p : Pay) (w : World) : Calls Try.prog 22 #[.agg (pc p)] w fun e w' => e = .returned (.bool (goodPay p)) ∧ Below w.heap.size w w' := by
  cases e1 : sm 0 p.frm 3
  · have fin : goodPay p = false := by simp [goodPay, e1]
    replace fin := Lib.hid fin
    go_enter Try.func22, Try.ntmps22
    go_wp2_with (go_at_call 63; refine (small_any _ _ _ _).mono ?_; rintro e w' ⟨rfl, rfl⟩)
    go_ret
    exact ⟨by rw [fin.out]; rfl, (Below.refl _ _).alloc (Nat.le_refl _) _⟩
  cases e2 : sm 0 p.to 3
  · have fin : goodPay p = false := by simp [goodPay, e1, e2]
    replace fin := Lib.hid fin
    go_enter Try.func22, Try.ntmps22
    go_wp2_with (go_at_call 63; refine (small_any _ _ _ _).mono ?_; rintro e w' ⟨rfl, rfl⟩)
    go_ret
    exact ⟨by rw [fin.out]; rfl, (Below.refl _ _).alloc (Nat.le_refl _) _⟩
  by_cases e3' : (p.frm == p.to) = true
  · have e3 := e3'
    clear e3'
    have e3b : (p.frm != p.to) = false := by rw [bne, e3]; rfl
    have fin : goodPay p = false := by simp [goodPay, e1, e2, e3]
    replace fin := Lib.hid fin
    go_enter Try.func22, Try.ntmps22
    go_wp2_with (go_at_call 63; refine (small_any _ _ _ _).mono ?_; rintro e w' ⟨rfl, rfl⟩)
    go_ret
    exact ⟨by rw [fin.out]; rfl, (Below.refl _ _).alloc (Nat.le_refl _) _⟩
  have e3 : (p.frm == p.to) = false := by simpa using e3'
  clear e3'
  have e3b : (p.frm != p.to) = true := by rw [bne, e3]; rfl
  cases e4 : sm 1 p.amt 1000000
  · have fin : goodPay p = false := by simp [goodPay, e1, e2, e3, e4]
    replace fin := Lib.hid fin
    go_enter Try.func22, Try.ntmps22
    go_wp2_with (go_at_call 63; refine (small_any _ _ _ _).mono ?_; rintro e w' ⟨rfl, rfl⟩)
    go_ret
    exact ⟨by rw [fin.out]; rfl, (Below.refl _ _).alloc (Nat.le_refl _) _⟩
  cases e5 : sm 0 p.cls 2
  · have fin : goodPay p = false := by simp [goodPay, e1, e2, e3, e4, e5]
    replace fin := Lib.hid fin
    go_enter Try.func22, Try.ntmps22
    go_wp2_with (go_at_call 63; refine (small_any _ _ _ _).mono ?_; rintro e w' ⟨rfl, rfl⟩)
    go_ret
    exact ⟨by rw [fin.out]; rfl, (Below.refl _ _).alloc (Nat.le_refl _) _⟩
  cases e6 : sm 1 p.st 3
  · have fin : goodPay p = false := by simp [goodPay, e1, e2, e3, e4, e5, e6]
    replace fin := Lib.hid fin
    go_enter Try.func22, Try.ntmps22
    go_wp2_with (go_at_call 63; refine (small_any _ _ _ _).mono ?_; rintro e w' ⟨rfl, rfl⟩)
    go_ret
    exact ⟨by rw [fin.out]; rfl, (Below.refl _ _).alloc (Nat.le_refl _) _⟩
  by_cases h7 : 0 ≤ p.seq
  · have fin : goodPay p = true := by simp [goodPay, e1, e2, e3, e4, e5, e6, h7]
    replace fin := Lib.hid fin
    go_enter Try.func22, Try.ntmps22
    go_wp2_with (go_at_call 63; refine (small_any _ _ _ _).mono ?_; rintro e w' ⟨rfl, rfl⟩)
    go_ret
    exact ⟨by rw [fin.out]; rfl, (Below.refl _ _).alloc (Nat.le_refl _) _⟩
  · have fin : goodPay p = false := by simp [goodPay]; omega
    have hd : decide (0 ≤ p.seq) = false := by simpa using h7
    replace fin := Lib.hid fin
    go_enter Try.func22, Try.ntmps22
    go_wp2_with (go_at_call 63; refine (small_any _ _ _ _).mono ?_; rintro e w' ⟨rfl, rfl⟩)
    go_ret
    exact ⟨by rw [fin.out]; rfl, (Below.refl _ _).alloc (Nat.le_refl _) _⟩

set_option maxHeartbeats 1000000 in
theorem isPay_any (p : Pay) (w : World) : Calls Try.prog 23 #[.agg (pc p)] w fun e w' => e = .returned (.bool (goodPay p)) ∧ Below w.heap.size w w' := by
  cases e1 : sm 0 p.frm 3
  · have fin : goodPay p = false := by simp [goodPay, e1]
    replace fin := Lib.hid fin
    go_enter Try.func23, Try.ntmps23
    go_wp2_with (go_at_call 64; refine (within_any _ _ _ _).mono ?_; rintro e w' ⟨rfl, rfl⟩)
    go_ret
    exact ⟨by rw [fin.out]; rfl, (Below.refl _ _).alloc (Nat.le_refl _) _⟩
  cases e2 : sm 0 p.to 3
  · have fin : goodPay p = false := by simp [goodPay, e1, e2]
    replace fin := Lib.hid fin
    go_enter Try.func23, Try.ntmps23
    go_wp2_with (go_at_call 64; refine (within_any _ _ _ _).mono ?_; rintro e w' ⟨rfl, rfl⟩)
    go_ret
    exact ⟨by rw [fin.out]; rfl, (Below.refl _ _).alloc (Nat.le_refl _) _⟩
  by_cases e3' : (p.frm == p.to) = true
  · have e3 := e3'
    clear e3'
    have e3b : (p.frm != p.to) = false := by rw [bne, e3]; rfl
    have fin : goodPay p = false := by simp [goodPay, e1, e2, e3]
    replace fin := Lib.hid fin
    go_enter Try.func23, Try.ntmps23
    go_wp2_with (go_at_call 64; refine (within_any _ _ _ _).mono ?_; rintro e w' ⟨rfl, rfl⟩)
    go_ret
    exact ⟨by rw [fin.out]; rfl, (Below.refl _ _).alloc (Nat.le_refl _) _⟩
  have e3 : (p.frm == p.to) = false := by simpa using e3'
  clear e3'
  have e3b : (p.frm != p.to) = true := by rw [bne, e3]; rfl
  cases e4 : sm 1 p.amt 1000000
  · have fin : goodPay p = false := by simp [goodPay, e1, e2, e3, e4]
    replace fin := Lib.hid fin
    go_enter Try.func23, Try.ntmps23
    go_wp2_with (go_at_call 64; refine (within_any _ _ _ _).mono ?_; rintro e w' ⟨rfl, rfl⟩)
    go_ret
    exact ⟨by rw [fin.out]; rfl, (Below.refl _ _).alloc (Nat.le_refl _) _⟩
  cases e5 : sm 0 p.cls 2
  · have fin : goodPay p = false := by simp [goodPay, e1, e2, e3, e4, e5]
    replace fin := Lib.hid fin
    go_enter Try.func23, Try.ntmps23
    go_wp2_with (go_at_call 64; refine (within_any _ _ _ _).mono ?_; rintro e w' ⟨rfl, rfl⟩)
    go_ret
    exact ⟨by rw [fin.out]; rfl, (Below.refl _ _).alloc (Nat.le_refl _) _⟩
  cases e6 : sm 1 p.st 3
  · have fin : goodPay p = false := by simp [goodPay, e1, e2, e3, e4, e5, e6]
    replace fin := Lib.hid fin
    go_enter Try.func23, Try.ntmps23
    go_wp2_with (go_at_call 64; refine (within_any _ _ _ _).mono ?_; rintro e w' ⟨rfl, rfl⟩)
    go_ret
    exact ⟨by rw [fin.out]; rfl, (Below.refl _ _).alloc (Nat.le_refl _) _⟩
  by_cases h7 : 0 ≤ p.seq
  · have fin : goodPay p = true := by simp [goodPay, e1, e2, e3, e4, e5, e6, h7]
    replace fin := Lib.hid fin
    go_enter Try.func23, Try.ntmps23
    go_wp2_with (go_at_call 64; refine (within_any _ _ _ _).mono ?_; rintro e w' ⟨rfl, rfl⟩)
    go_ret
    exact ⟨by rw [fin.out]; rfl, (Below.refl _ _).alloc (Nat.le_refl _) _⟩
  · have fin : goodPay p = false := by simp [goodPay]; omega
    have hd : decide (0 ≤ p.seq) = false := by simpa using h7
    replace fin := Lib.hid fin
    go_enter Try.func23, Try.ntmps23
    go_wp2_with (go_at_call 64; refine (within_any _ _ _ _).mono ?_; rintro e w' ⟨rfl, rfl⟩)
    go_ret
    exact ⟨by rw [fin.out]; rfl, (Below.refl _ _).alloc (Nat.le_refl _) _⟩

set_option maxHeartbeats 1000000 in
theorem sendsR_any (frm to amt : Int) (w : World) : Calls Try.prog 65 #[.int .i64 frm, .int .i64 to, .int .i64 amt] w fun e w' => e = .returned (.bool (sends frm to amt)) ∧ w = w' := by
  cases e1 : sm 0 frm 3
  · have fin : sends frm to amt = false := by simp [sends, e1]
    replace fin := Lib.hid fin
    go_enter Try.func65, Try.ntmps65
    go_wp2_with (go_at_call 64; refine (within_any _ _ _ _).mono ?_; rintro e w' ⟨rfl, rfl⟩)
    go_ret
    exact ⟨by rw [fin.out]; rfl, rfl⟩
  cases e2 : sm 0 to 3
  · have fin : sends frm to amt = false := by simp [sends, e1, e2]
    replace fin := Lib.hid fin
    go_enter Try.func65, Try.ntmps65
    go_wp2_with (go_at_call 64; refine (within_any _ _ _ _).mono ?_; rintro e w' ⟨rfl, rfl⟩)
    go_ret
    exact ⟨by rw [fin.out]; rfl, rfl⟩
  by_cases e3' : (frm == to) = true
  · have e3 := e3'
    clear e3'
    have e3b : (frm != to) = false := by rw [bne, e3]; rfl
    have fin : sends frm to amt = false := by simp [sends, e1, e2, e3]
    replace fin := Lib.hid fin
    go_enter Try.func65, Try.ntmps65
    go_wp2_with (go_at_call 64; refine (within_any _ _ _ _).mono ?_; rintro e w' ⟨rfl, rfl⟩)
    go_ret
    exact ⟨by rw [fin.out]; rfl, rfl⟩
  have e3 : (frm == to) = false := by simpa using e3'
  clear e3'
  have e3b : (frm != to) = true := by rw [bne, e3]; rfl
  cases e4 : sm 1 amt 1000000
  · have fin : sends frm to amt = false := by simp [sends, e1, e2, e3, e4]
    replace fin := Lib.hid fin
    go_enter Try.func65, Try.ntmps65
    go_wp2_with (go_at_call 64; refine (within_any _ _ _ _).mono ?_; rintro e w' ⟨rfl, rfl⟩)
    go_ret
    exact ⟨by rw [fin.out]; rfl, rfl⟩
  have fin : sends frm to amt = true := by simp [sends, e1, e2, e3, e4]
  replace fin := Lib.hid fin
  go_enter Try.func65, Try.ntmps65
  go_wp2_with (go_at_call 64; refine (within_any _ _ _ _).mono ?_; rintro e w' ⟨rfl, rfl⟩)
  go_ret
  exact ⟨by rw [fin.out]; rfl, rfl⟩
end Go.Proofs.Ytggfdkkhlokmlaa
