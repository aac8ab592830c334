/- ledger.Move and the reference's mirrors of May and Move. -/
import Derived.Test.YtggfdkkhlokmlaaLedger
import Derived.WalkSpells
namespace Go.Proofs.Ytggfdkkhlokmlaa
open Go.RowKit

def Hs.setHas (h : Hs) (i v : Int) : Hs := { h with has := fun j => if j = i then v else h.has j }
def Hs.setSent (h : Hs) (i k v : Int) : Hs := { h with sent := fun a b => if a = i ∧ b = k then v else h.sent a b }
/-- The house behind a sum that was sent. -/
def Hs.move (h : Hs) (frm to amt : Int) : Hs := if sends frm to amt then ((h.setHas frm (h.has frm - amt)).setHas to (h.has to + amt)).setSent frm to (h.sent frm to + amt) else h
theorem setHas_ne (h : Hs) (i v k : Int) (hne : (i == k) = false) : (h.setHas i v).has k = h.has k := by
  have : i ≠ k := by simpa using hne
  simp [Hs.setHas, Ne.symm this]
theorem setHas_ne' (h : Hs) (i v k : Int) (hne : (k == i) = false) : (h.setHas i v).has k = h.has k := by
  have : k ≠ i := by simpa using hne
  simp [Hs.setHas, this]
theorem setHas_eq (h : Hs) (i v : Int) : (h.setHas i v).has i = v := by simp [Hs.setHas]
theorem setHas_sent (h : Hs) (i v : Int) : (h.setHas i v).sent = h.sent := rfl
theorem setHas_lim (h : Hs) (i v : Int) : (h.setHas i v).lim = h.lim := rfl
theorem setHas_cr (h : Hs) (i v : Int) : (h.setHas i v).cr = h.cr := rfl
theorem setHas_next (h : Hs) (i v : Int) : (h.setHas i v).next = h.next := rfl
theorem hc_setHas (h : Hs) (s : Value) (i v : Int) (h0 : 0 ≤ i) (h1 : i < 4) : (hc h s).setIfInBounds (i.toNat * 2) (.int .i64 v) = hc (h.setHas i v) s := by
  rcases four ⟨h0, h1⟩ with rfl | rfl | rfl | rfl <;> rfl
theorem hc_setSent (h : Hs) (s : Value) (i k v : Int) (h0 : 0 ≤ i) (h1 : i < 4) (k0 : 0 ≤ k) (k1 : k < 4) : (hc h s).setIfInBounds (8 + i.toNat * 4 + k.toNat) (.int .i64 v) = hc (h.setSent i k v) s := by
  rcases four ⟨h0, h1⟩ with rfl | rfl | rfl | rfl <;> rcases four ⟨k0, k1⟩ with rfl | rfl | rfl | rfl <;> rfl
attribute [local go_sem] hc_has hc_cr hc_sent hc_lim hc_pays hc_next hc_size hc_setHas hc_setSent setHas_ne setHas_ne' setHas_eq setHas_sent setHas_lim setHas_cr setHas_next

theorem results_house {fn : Func} {p : Tmp} (hf : fn.results = #[.cell p 30]) (tmps : Array Value) (w : World) (g : Nat) (h : Hs) (s : Value)
    (hp : tmps.getD p undef = .pointer (some ⟨g, 0, none⟩)) (hg : w.heap[g]? = some (.cells (hc h s) 30 (0, 0))) : (results fn tmps).run Try.prog w = .ok (.agg (hc h s)) w :=
  results_cell_row hf tmps w g 30 _ (0, 0) _ hp hg Try.underlying30 rfl info30

set_option maxHeartbeats 1000000 in
theorem move_no (h : Hs) (s : Value) (frm to amt : Int) (w : World) (hs : sends frm to amt = false) (h1 : s.oneCell' = true) :
    Calls Try.prog 29 #[.agg (hc h s), .int .i64 frm, .int .i64 to, .int .i64 amt] w fun e w' => e = .returned (.agg (hc h s)) ∧ Below w.heap.size w w' := by
  cases e1 : sm 0 frm 3
  · clear hs
    go_enter Try.func29, Try.ntmps29
    go_wp2_with (first | go_skip | (go_at_call 63; refine (small_any _ _ _ _).mono ?_; rintro e w' ⟨rfl, rfl⟩) | (refine ld_row 30 _ rfl rfl _ rfl _ _ _ _ (heap_alloc2_old _ _ _) Try.underlying30 rfl info30 ?_) | (refine st_row 30 _ _ rfl rfl _ rfl _ rfl _ _ (heap_alloc2_new _ _ _) info30 rfl (hc_one _ _ h1) ?_; intro w' hr hgr hsz))
    refine bodyPost_ret (results_house rfl _ _ _ _ _ rfl hr) rfl ⟨rfl, ?_⟩
    exact (((Below.refl _ _).alloc (Nat.le_refl _) _).alloc (by simp) _).grown hgr (by simp; omega) (fun k hk => by cases hk; omega)
  cases e2 : sm 0 to 3
  · clear hs
    go_enter Try.func29, Try.ntmps29
    go_wp2_with (first | go_skip | (go_at_call 63; refine (small_any _ _ _ _).mono ?_; rintro e w' ⟨rfl, rfl⟩) | (refine ld_row 30 _ rfl rfl _ rfl _ _ _ _ (heap_alloc2_old _ _ _) Try.underlying30 rfl info30 ?_) | (refine st_row 30 _ _ rfl rfl _ rfl _ rfl _ _ (heap_alloc2_new _ _ _) info30 rfl (hc_one _ _ h1) ?_; intro w' hr hgr hsz))
    refine bodyPost_ret (results_house rfl _ _ _ _ _ rfl hr) rfl ⟨rfl, ?_⟩
    exact (((Below.refl _ _).alloc (Nat.le_refl _) _).alloc (by simp) _).grown hgr (by simp; omega) (fun k hk => by cases hk; omega)
  cases e3 : frm == to
  · cases e4 : sm 1 amt 1000000
    · clear hs
      go_enter Try.func29, Try.ntmps29
      go_wp2_with (first | go_skip | (go_at_call 63; refine (small_any _ _ _ _).mono ?_; rintro e w' ⟨rfl, rfl⟩) | (refine ld_row 30 _ rfl rfl _ rfl _ _ _ _ (heap_alloc2_old _ _ _) Try.underlying30 rfl info30 ?_) | (refine st_row 30 _ _ rfl rfl _ rfl _ rfl _ _ (heap_alloc2_new _ _ _) info30 rfl (hc_one _ _ h1) ?_; intro w' hr hgr hsz))
      refine bodyPost_ret (results_house rfl _ _ _ _ _ rfl hr) rfl ⟨rfl, ?_⟩
      exact (((Below.refl _ _).alloc (Nat.le_refl _) _).alloc (by simp) _).grown hgr (by simp; omega) (fun k hk => by cases hk; omega)
    · simp [sends, e1, e2, e3, e4] at hs
  · clear hs
    go_enter Try.func29, Try.ntmps29
    go_wp2_with (first | go_skip | (go_at_call 63; refine (small_any _ _ _ _).mono ?_; rintro e w' ⟨rfl, rfl⟩) | (refine ld_row 30 _ rfl rfl _ rfl _ _ _ _ (heap_alloc2_old _ _ _) Try.underlying30 rfl info30 ?_) | (refine st_row 30 _ _ rfl rfl _ rfl _ rfl _ _ (heap_alloc2_new _ _ _) info30 rfl (hc_one _ _ h1) ?_; intro w' hr hgr hsz))
    refine bodyPost_ret (results_house rfl _ _ _ _ _ rfl hr) rfl ⟨rfl, ?_⟩
    exact (((Below.refl _ _).alloc (Nat.le_refl _) _).alloc (by simp) _).grown hgr (by simp; omega) (fun k hk => by cases hk; omega)

set_option maxHeartbeats 1000000 in
theorem move_yes (h : Hs) (s : Value) (frm to amt : Int) (w : World) (hr : h.Room) (hs : Sends frm to amt) (h1 : s.oneCell' = true) :
    Calls Try.prog 29 #[.agg (hc h s), .int .i64 frm, .int .i64 to, .int .i64 amt] w fun e w' => e = .returned (.agg (hc (h.move frm to amt) s)) ∧ Below w.heap.size w w' := by
  have fin : h.move frm to amt = ((h.setHas frm (h.has frm - amt)).setHas to (h.has to + amt)).setSent frm to (h.sent frm to + amt) := by simp [Hs.move, sends_true.2 hs]
  replace fin := Lib.hid fin
  obtain ⟨f0, f1, t0, t1, ne, a0, a1⟩ := hs
  have e1 : sm 0 frm 3 = true := sm_yes (by omega)
  have e2 : sm 0 to 3 = true := sm_yes (by omega)
  have e3 : (frm == to) = false := by simpa using ne
  have e4 : sm 1 amt 1000000 = true := sm_yes ⟨a0, a1⟩
  clear ne
  have r0 := hr.has frm f0 f1
  have r1 := hr.has to t0 t1
  have r2 := hr.sent frm to f0 f1 t0 t1
  clear hr
  go_enter Try.func29, Try.ntmps29
  go_wp2_with (first | go_skip | (go_at_call 63; refine (small_any _ _ _ _).mono ?_; rintro e w' ⟨rfl, rfl⟩) | (refine ld_row 30 _ rfl rfl _ rfl _ _ _ _ (heap_alloc2_old _ _ _) Try.underlying30 rfl info30 ?_) | (refine st_row 30 _ _ rfl rfl _ rfl _ rfl _ _ (heap_alloc2_new _ _ _) info30 rfl (hc_one _ _ h1) ?_; intro w' hr hgr hsz))
  go_region
  go_wp2_with (first | go_skip | (go_at_call 63; refine (small_any _ _ _ _).mono ?_; rintro e w' ⟨rfl, rfl⟩) | (refine ld_row 30 _ rfl rfl _ rfl _ _ _ _ (heap_alloc2_old _ _ _) Try.underlying30 rfl info30 ?_) | (refine st_row 30 _ _ rfl rfl _ rfl _ rfl _ _ (heap_alloc2_new _ _ _) info30 rfl (hc_one _ _ h1) ?_; intro w' hr hgr hsz))
  refine bodyPost_ret (results_house rfl _ _ _ _ _ rfl hr) rfl ⟨by rw [fin.out], ?_⟩
  exact ((((Below.refl _ _).alloc (Nat.le_refl _) _).alloc (by simp) _).drew).grown hgr (by simp; omega) (fun k hk => by cases hk; omega)
end Go.Proofs.Ytggfdkkhlokmlaa
