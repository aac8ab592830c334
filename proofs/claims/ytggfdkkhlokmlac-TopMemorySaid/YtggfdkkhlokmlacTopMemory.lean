/- TopMemory: the walks. -/
import Derived.Test.YtggfdkkhlokmlacTopSame
import Derived.Test.YtggfdkkhlokmlacTopReply
import Derived.Test.YtggfdkkhlokmlacPlayN
namespace Go.Proofs.Ytggfdkkhlokmlac
open Go.RowKit
attribute [local go_sem] hc_pays hc_next hc_size rc_0 rc_1 rc_2 rc_size dc_size
section
variable {P : Program} {ops : Array Oper} {rest : List Oper} {o : Oper} {a : Act} {w : World} {Q : Exit → Act → World → Prop}
/-- A struct written into the midst of a block. -/
theorem st_part (ty : TypeId) (x y : Operand) (ho : o.op = .store ty x y) (hw : Region.wanted o (yielded ops a.tmps) = true) (g off : Nat) (hx : a.eval x = .pointer (some ⟨g, off, none⟩))
    (cells : Array Value) (hy : a.eval y = .agg cells) (t : TypeId) (old : Array Value) (hg : w.heap[g]? = some (.cells old t (0, 0))) (hi : (P.info? ty).map (·.size) = some cells.size)
    (hs : off + cells.size ≤ old.size) (h1 : cells.all (·.oneCell') = true)
    (h : ∀ (w' : World) (new : Array Value), w'.heap[g]? = some (.cells new t (0, 0)) → new.size = old.size → w.grownBy w' (some g) → w'.heap.size = w.heap.size → wpList P ops Q rest (a.put o.dst undef) w') : wpList P ops Q (o :: rest) a w :=
  BigFrame.wpList_want hw fun K hK => by
    have hst := run_storeCells_at P g off t cells.toList 0 old w hg (by simpa using hs) (fun v hv => (Array.all_eq_true_iff_forall_mem.1 h1) v (by simpa using hv))
    simp only [Nat.add_zero, Array.length_toList] at hst
    have hr : (storeVar ty ⟨g, off, none⟩ (.agg cells)).run P w = .ok () (w.setRow g (old.toList.take off ++ cells.toList ++ old.toList.drop (off + cells.size)).toArray) := by
      cases hq : P.info? ty with
      | none => simp [hq] at hi
      | some i =>
        have hs2 : cells.size = i.size := by simp [hq] at hi; omega
        simp [storeVar, sizeOf, typeInfo, hq, Value.cells, hs2, hst]
    unfold Oper.wp execOp
    simp only [ho, hx, hy, Instr.storeAt, Instr.sureAddr, Sem.run_bind, Sem.run_pure, Result.andThen_ok, hr]
    refine hK _ _ (h _ _ (setRow_heap w g old _ t _ hg) ?_ ⟨rfl, rfl, rfl, by simp, fun k _ hk => setRow_other w g k _ (fun e => hk (by rw [e]))⟩ (by simp))
    simp
    omega
end
theorem OwnInts.block {w : World} {base : Nat} {a : Option Addr} {n cap : Nat} {l : List Int} (h : OwnInts w base (.slice a n cap) l) (hl : 0 < l.length) : ∃ g cur, a = some ⟨g, 0, none⟩ ∧ base ≤ g ∧ w.heap[g]? = some (.cells cur 3 (0, 0)) ∧ l.length ≤ cur.size := by
  obtain ⟨⟨hlen, hv⟩, hroom⟩ := h
  rcases hv with ⟨e, h0⟩ | ⟨g, cap', cur, e, hb, hg, hn, hc, hsz, htake⟩
  · omega
  · cases e
    exact ⟨g, cur, rfl, hb, hg, by omega⟩
theorem OwnPays.block {w : World} {base : Nat} {a : Option Addr} {n cap : Nat} {l : List Pay} (h : OwnPays w base (.slice a n cap) l) (hl : 0 < l.length) : ∃ g cur, a = some ⟨g, 0, none⟩ ∧ base ≤ g ∧ w.heap[g]? = some (.cells cur 45 (0, 0)) ∧ l.length * 6 ≤ cur.size := by
  obtain ⟨⟨hlen, hv⟩, hroom⟩ := h
  rcases hv with ⟨e, h0⟩ | ⟨g, cap', cur, e, hb, hg, hn, hc, hsz, htake⟩
  · omega
  · cases e
    exact ⟨g, cur, rfl, hb, hg, by omega⟩
def zeroPay : Pay := ⟨0, 0, 0, 0, 0, 0⟩
theorem zeroPay_cells : (.agg #[.int .i64 0, .int .i64 0, .int .i64 0, .int .i64 0, .int .i64 0, .int .i64 0] : Value) = .agg (pc zeroPay) := rfl
set_option maxRecDepth 100000 in
set_option maxHeartbeats 4000000 in
theorem topMemory_look (p q ob base : Nat) (av : Nat → Prop) (B : Bk) (d : Deed) (v : Value) (w : World) (hk : BankAt w p (fun b => av b ∨ v.ownBlock = some b) (doL B d).1) (hpa : ¬ av p) (hfr : ∀ x, v.ownBlock = some x → x ≠ p ∧ ¬ av x)
    (ho : OwnInts w base v (nats (doL B d).2.done)) (hob : av ob) (hq : av q) (hoq : ob ≠ q) (hO0 : w.heap[ob]? = some (.cells #[.pointer (some ⟨q, 0, none⟩)] 23 (0, 0))) (hQ0 : BankAt w q (fun b => (¬ av b ∨ b = ob) ∧ b < w.heap.size) B)
    (hlt0 : ∀ b, av b → b < w.heap.size) (hsm : B.text.length ≤ 4000) (hf : -1 ≤ B.fail ∧ B.fail ≤ 4000) :
    Calls Try.prog 9 #[.pointer (some ⟨p, 0, none⟩), .agg (dc d), .agg (rc (doL B d).2.code (doL B d).2.n v), .pointer (some ⟨ob, 0, none⟩)] w fun e w' => e = .returned (.bool true) ∧ Only (fun b => av b ∨ v.ownBlock = some b) w w' ∧
      w'.heap[ob]? = some (.cells #[.pointer (some ⟨q, 0, none⟩)] 23 (0, 0)) ∧ ∃ avq, BankAt w' q avq (doL B d).1 ∧ ∀ b, (¬ av b ∨ b = ob) ∧ b < w.heap.size → avq b := by
  have cD := fun av w hB hav => do_any q av B d w hB hav hsm hf
  obtain ⟨X, hX⟩ : ∃ X, doL B d = X := ⟨_, rfl⟩
  rw [hX] at hk ho cD ⊢
  have hvo := ho.one
  have hown0 : ∀ x, v.ownBlock = some x → x < w.heap.size := fun x hx => ints_own_lt ho hx
  have cH := fun av w h => bankHouse_any p av X.1 w h
  replace hX := Lib.hid hX
  replace cD := Lib.hid cD
  replace cH := Lib.hid cH
  replace hk := Lib.hid hk
  replace hQ0 := Lib.hid hQ0
  replace hfr := Lib.hid hfr
  replace hlt0 := Lib.hid hlt0
  replace hown0 := Lib.hid hown0
  go_enter Try.func9, Try.ntmps9
  go_upto_region 1 with fail
  generalize hW : World.alloc (World.alloc w _) _ = W0
  have hA : W0.heap[w.heap.size]? = some (.cells (dc d) 28 (0, 0)) := by rw [← hW]; exact heap_alloc2_old w _ _
  have hR : W0.heap[w.heap.size + 1]? = some (.cells (rc X.2.code X.2.n v) 32 (0, 0)) := by rw [← hW]; exact heap_alloc2_new w _ _
  have hB0 : Below w.heap.size w W0 := by rw [← hW]; exact ((Below.refl w.heap.size w).alloc (Nat.le_refl _) _).alloc (by simp) _
  clear hW
  have hk1 := Lib.hid (hk.out.below hB0)
  have hQ1 := Lib.hid (hQ0.out.below hB0)
  have hO1 := hkeep hB0 hO0
  have ho1 := ho.below hB0
  have hql := hlt0.out q hq
  have hol := hlt0.out ob hob
  have hs0 := hB0.size
  have hqA : w.heap.size ≠ q := by omega
  have hqR : w.heap.size + 1 ≠ q := by omega
  replace ho := Lib.hid ho
  replace ho1 := Lib.hid ho1
  have hcI : ∀ w', Only (fun b => b = q) W0 w' → w'.cell? ⟨ob, 0, none⟩ = some (.pointer (some ⟨q, 0, none⟩)) := fun w' hI => cells_at ((hI.block ob (hlt hO1) hoq).trans hO1) 0
  replace hcI := Lib.hid hcI
  have hI0 : Only (fun b => b = q) W0 W0.drew := (Only.refl _ _).drew
  have hQd := Lib.hid (hQ1.out.below (Below.refl W0.heap.size W0).drew)
  have hkd := Lib.hid (hk1.out.below (Below.refl W0.heap.size W0).drew)
  refine wpG_start (Only (fun b => b = q) W0) 5 (by kernel_rfl) ?_
  generalize World.drew W0 = wd at *
  refine wpG_put 11 (i := 0) (oi := _) (v := (.pointer (some ⟨q, 0, none⟩))) [4, 2, 0] rfl rfl (by kernel_rfl) (by kernel_rfl) (by kernel_rfl) (by kernel_rfl) (fun _ _ _ h => h) hI0 ?hy1 ?rs1
  case hy1 => exact Or.inl ⟨by rfl, by intro w' hb; have c1 := hcI.out w' hb; go_simp⟩
  (try simp only [Act.put]); (try simp only [List.setIfInBounds_toArray]); (try simp only [List.set_cons_succ]); (try simp only [List.set_cons_zero]); (try simp only [List.size_toArray])
  refine wpG_put 12 (i := 1) (oi := _) (v := (.agg (dc d))) [4, 2, 1] rfl rfl (by kernel_rfl) (by kernel_rfl) (by kernel_rfl) (by kernel_rfl) (fun _ _ _ h => h) hI0 ?hy2 ?rs2
  case hy2 => exact yields_row 28 _ rfl rfl _ rfl _ _ _ _ (fun w' hI => (hI.block _ (hlt hA) hqA).trans hA) Try.underlying28 rfl info44
  (try simp only [Act.put]); (try simp only [List.setIfInBounds_toArray]); (try simp only [List.set_cons_succ]); (try simp only [List.set_cons_zero]); (try simp only [List.size_toArray])
  refine wpG_put 14 (i := 3) (oi := _) (v := (.agg (rc X.2.code X.2.n v))) [4, 3] rfl rfl (by kernel_rfl) (by kernel_rfl) (by kernel_rfl) (by kernel_rfl) (fun _ _ _ h => h) hI0 ?hy3 ?rs3
  case hy3 => exact yields_row 32 _ rfl rfl _ rfl _ _ _ _ (fun w' hI => (hI.block _ (hlt hR) hqR).trans hR) Try.underlying32 rfl infoRp
  (try simp only [Act.put]); (try simp only [List.setIfInBounds_toArray]); (try simp only [List.set_cons_succ]); (try simp only [List.set_cons_zero]); (try simp only [List.size_toArray])
  refine wpG_one (i := 2) (by kernel_rfl) rfl ?_
  go_wp2_with (first | go_skip | (go_at_call 11; refine (cD.out _ _ hQd.out (fun b hb => by have := hI0.size; omega)).mono ?_; rintro e w2 ⟨v2, rfl, ho2, hQ2, hO2⟩))
  have hI2 := hI0.trans (hO2.mono fun _ _ e => e)
  refine ⟨hI2, ?_⟩
  (try simp only [Act.put]); (try simp only [List.setIfInBounds_toArray]); (try simp only [List.set_cons_succ]); (try simp only [List.set_cons_zero]); (try simp only [List.size_toArray])
  have ho1d : OwnInts w2 base v (nats X.2.done) := hI2.ints ho1.out fun x hx e => (hfr.out x hx).2 (e ▸ hq)
  have hk2 := hkd.out.only (hO2.mono fun b _ e => e ▸ Or.inl hq) (fun h => h.elim hpa fun e => (hfr.out p e).1 rfl)
  obtain ⟨a2, cap2, rfl, hi2, _⟩ := ho2.at_
  have hv2 : ∀ x, (Value.slice a2 (nats X.2.done).length cap2).ownBlock = some x → wd.heap.size ≤ x := fun x hx => ho2.own hx
  rw [nats_len] at *
  obtain ⟨a1, cap1, rfl, hi1, _⟩ := ho1d.at_
  rw [nats_len] at *
  have hdl : X.2.done.length ≤ 9223372036854775807 := by have h1 := hi1.le; have h2 := hi1.capm; rw [nats_len] at h1; unfold maxLen at h2; omega
  have hsd : W0.heap.size ≤ wd.heap.size := hI0.size
  replace hv2 := Lib.hid hv2
  replace hk2 := Lib.hid hk2
  replace hQ2 := Lib.hid hQ2
  replace ho1d := Lib.hid ho1d
  refine wpG_one (i := 4) (by kernel_rfl) rfl ?_
  go_wp2_with (first | go_skip | (go_at_call 10; refine (topSameReply_eq X.2.code X.2.n X.2.done a2 a1 cap2 cap1 _ hi2 hi1).mono ?_; rintro e w3 ⟨rfl, hb3⟩))
  have hI3 := hI2.trans (only_new (av := fun b => b = q) hb3)
  refine ⟨hI3, ?_⟩
  (try simp only [Act.put]); (try simp only [List.setIfInBounds_toArray]); (try simp only [List.set_cons_succ]); (try simp only [List.set_cons_zero]); (try simp only [List.size_toArray])
  refine wpG_drop 5 rfl (by kernel_rfl) ?_
  simp only [List.drop_succ_cons, List.drop_zero]
  have hk3 := Lib.hid (hk2.out.below hb3)
  have hQ3 := Lib.hid (hQ2.out.below hb3)
  have ho3 := Lib.hid (ho1d.out.below hb3)
  have hO3 := (hI3.block ob (hlt hO1) hoq).trans hO1
  have hR3 := (hI3.block _ (hlt hR) hqR).trans hR
  have hw3 : Only (fun b => av b ∨ (Value.slice a1 X.2.done.length cap1).ownBlock = some b) w w3 := (only_new hB0).trans (hI3.mono fun b _ e => .inl (e ▸ hq))
  have hs3 := hI3.size
  have hs2 := hb3.size
  clear hI0 hI2 hI3 hQd hkd hk2 hQ2 ho1d hi1 hi2 hO2 ho2 hb3 hA hR hk1 hQ1 hO1 ho1 hcI
  have cR3 := cells_at hR3
  go_wp2_with fail
  clear cR3
  go_loopg [20] X.2.done.length (fun g s20 wr => ∃ k : Nat, k ≤ X.2.done.length ∧ g = X.2.done.length - k ∧ s20 = .int .i64 k ∧ (0 < X.2.done.length → ∃ gb cur, a1 = some ⟨gb, 0, none⟩ ∧ wr.heap[gb]? = some (.cells cur 3 (0, 0)) ∧ X.2.done.length ≤ cur.size) ∧ Only (fun b => (Value.slice a1 X.2.done.length cap1).ownBlock = some b) w3 wr)
  case atStart => exact ⟨0, by omega, rfl, rfl, fun hl => by
    obtain ⟨gb, cur, e, _, hg, hc⟩ := OwnInts.block ho3.out (by rw [nats_len]; exact hl)
    rw [nats_len] at hc
    exact ⟨gb, cur, e, hg, hc⟩, Only.refl _ _⟩
  case round =>
    obtain ⟨k, hk, rfl, rfl, hgb, hOr⟩ := hrel
    by_cases h4 : k < X.2.done.length
    · have h4d : decide ((k : Int) < X.2.done.length) = true := decide_eq_true (by omega)
      obtain ⟨gb, cur, rfl, hg, hcs⟩ := hgb (by omega)
      have hRr := (hOr.block _ (hlt hR3) (fun e => by
        simp only [Value.ownBlock, Option.some.injEq] at e
        have := hown0.out gb rfl
        omega)).trans hR3
      have cRr := cells_at hRr
      have cG : wr.cell? ⟨gb, k, none⟩ = some (cur[k]'(by omega)) := (cells_at hg k).trans (by simp)
      have fG := frozenAt hg
      have hset := Lib.hid (hsetSame (i := k) hg (.int .i64 (-1)))
      clear hRr hgb
      go_wp2_with fail
      go_roundg (X.2.done.length - (k + 1))
      case measure => omega
      case rel => exact ⟨k + 1, by omega, rfl, by go_num, fun _ => ⟨gb, _, rfl, hset.out, by simp; omega⟩, hOr.trans ((only_set gb k _ _).mono fun b _ e => by rw [e]; rfl)⟩
    · have h4d : decide ((k : Int) < X.2.done.length) = false := decide_eq_false (by omega)
      have hk4 := hk3.out.only (hOr.mono fun b _ e => Or.inr e) (fun h => h.elim hpa fun e => (hfr.out p e).1 rfl)
      have hQ4 := hQ3.out.only (hOr.mono fun b _ e => Or.inl ⟨Or.inl (hfr.out b e).2, hown0.out b e⟩) (fun h => h.elim (fun e => e.1.elim (fun n => n hq) fun e => hoq e.symm) fun e => by have := hv2.out q e; omega)
      have hO4 := (hOr.block ob (hlt hO3) (fun e => (hfr.out ob e).2 hob)).trans hO3
      have hw4 := hw3.trans (hOr.mono fun b _ e => Or.inr e)
      have hs4 := hOr.size
      replace hk4 := Lib.hid hk4
      replace hQ4 := Lib.hid hQ4
      clear hgb hOr hk3 hQ3 hO3 hw3 ho3 hR3
      go_upto_region 9 with (first | go_skip | (go_at_call 12; refine (cH.out _ _ hk4.out).mono ?_; rintro e w5 ⟨⟨u, rfl, hown⟩, hb5⟩; obtain ⟨a5, cap5, rfl, _, _⟩ := hown.at_) | (refine st_new 42 _ _ rfl _ 42 _ rfl rfl rfl (hc X.1.h (.slice a5 X.1.l.length cap5)) rfl info30 rfl (hc_one _ _ rfl) ?_))
      have hX6 := hnew w5 (.cells (hc X.1.h (.slice a5 X.1.l.length cap5)) 42)
      have hb46 := hb5.alloc hb5.size (.cells (hc X.1.h (.slice a5 X.1.l.length cap5)) 42)
      have hblk : 0 < X.1.l.length → ∃ gp cur, a5 = some ⟨gp, 0, none⟩ ∧ wr.heap.size ≤ gp ∧ gp ≠ w5.heap.size ∧ (w5.alloc (.cells (hc X.1.h (.slice a5 X.1.l.length cap5)) 42)).heap[gp]? = some (.cells cur 45 (0, 0)) ∧ X.1.l.length * 6 ≤ cur.size := fun hl => by
        obtain ⟨gp, cur, e, h1, h2, h3⟩ := OwnPays.block hown hl
        exact ⟨gp, cur, e, h1, by have := hlt h2; omega, hold h2 _, h3⟩
      have hml : X.1.l.length ≤ 9223372036854775807 := by
        obtain ⟨_, _, e, hp, _⟩ := hown.at_
        have h1 := hp.le; have h2 := hp.capm; unfold maxLen at h2; omega
      generalize w5.alloc (.cells (hc X.1.h (.slice a5 X.1.l.length cap5)) 42) = w6 at *
      have hxl := hb5.size
      generalize w5.heap.size = hx at *
      clear hown hb5
      have cX := cells_at hX6
      go_wp2_with fail
      clear cX
      go_loopg [33] X.1.l.length (fun g s33 wx => ∃ k : Nat, k ≤ X.1.l.length ∧ g = X.1.l.length - k ∧ s33 = .int .i64 k ∧ (0 < X.1.l.length → ∃ gp cur, a5 = some ⟨gp, 0, none⟩ ∧ wr.heap.size ≤ gp ∧ gp ≠ hx ∧ wx.heap[gp]? = some (.cells cur 45 (0, 0)) ∧ X.1.l.length * 6 ≤ cur.size) ∧ wx.heap[hx]? = some (.cells (hc X.1.h (.slice a5 X.1.l.length cap5)) 42 (0, 0)) ∧ Below wr.heap.size wr wx)
      case atStart => exact ⟨0, by omega, rfl, rfl, hblk, hX6, hb46⟩
      case round =>
        clear hblk hX6 hb46
        obtain ⟨m, hm, rfl, rfl, hgp, hXm, hbm⟩ := hrel
        by_cases h5 : m < X.1.l.length
        · have h5d : decide ((m : Int) < X.1.l.length) = true := decide_eq_true (by omega)
          obtain ⟨gp, cur, rfl, hgl, hgx, hg, hcs⟩ := hgp (by omega)
          have cXm := cells_at hXm
          go_wp2_with (first | go_skip | (rw [zeroPay_cells]; refine st_part 45 _ _ rfl rfl gp _ rfl (pc zeroPay) rfl _ _ hg info36 (by rw [pc_size]; omega) (pc_one _) ?_; intro w7 new hn7 hz7 hgr7 hs7) | (refine st_part 45 _ _ rfl rfl gp _ rfl (pc zeroPay) rfl _ _ hg info36 (by rw [pc_size]; omega) (pc_one _) ?_; intro w7 new hn7 hz7 hgr7 hs7))
          have hXn := (hgr7.block hx (hlt hXm) (by simp; omega)).trans hXm
          have hbn := hbm.grown hgr7 hbm.size (fun k hk => by cases hk; exact hgl)
          go_roundg (X.1.l.length - (m + 1))
          case measure => omega
          case rel => exact ⟨m + 1, by omega, rfl, by go_num, fun _ => ⟨gp, new, rfl, hgl, hgx, hn7, by omega⟩, hXn, hbn⟩
        · have h5d : decide ((m : Int) < X.1.l.length) = false := decide_eq_false (by omega)
          have hk8 := Lib.hid (hk4.out.below hbm)
          have hQ8 := Lib.hid (hQ4.out.below hbm)
          have hO8 := hkeep hbm hO4
          have cO8 := cells_at hO8
          go_wp2_with (first | go_skip | (go_at_call 13; refine (topSame_any p q _ _ X.1 X.1 _ hk8.out hQ8.out rfl rfl rfl rfl).mono ?_; rintro e w9 ⟨rfl, hb9⟩))
          go_ret
          have hb49 := bstep hbm hbm.size hb9
          exact ⟨rfl, by rw [nats_len]; exact hw4.more hb49, hkeep hb49 hO4, _, hQ8.out.below hb9, fun b h => .inl h⟩
/-- The other bank stands as the bank behind i acts, its blocks among those of av. -/
def MemJ (ob q : Nat) (l : List Deed) (i : Nat) (av : Nat → Prop) (w : World) : Prop := (av ob ∧ av q ∧ ob ≠ q) ∧ w.heap[ob]? = some (.cells #[.pointer (some ⟨q, 0, none⟩)] 23 (0, 0)) ∧
  ∃ a cap, w.heap[q]? = some (.cells (bc (Bs l i).h (.slice a (Bs l i).l.length cap) (Bs l i).text (Bs l i).down (Bs l i).fail (Bs l i).acts) 57 (0, 0)) ∧ PaysAt w a cap (Bs l i).l ∧ (0 < (Bs l i).l.length → ∀ b off s, a = some ⟨b, off, s⟩ → b ≠ q ∧ b ≠ ob ∧ av b)
theorem topMemory_looks (base ob q : Nat) (l : List Deed) : LooksN 9 #[.pointer (some ⟨ob, 0, none⟩)] base (MemJ ob q l) l where
  enter := fun args w => by kernel_rfl
  keep := fun i av av' w w' hJ hb ha hs => by
    obtain ⟨⟨h1, h2, h3⟩, h4, a, cap, h5, h6, h7⟩ := hJ
    refine ⟨⟨ha _ h1, ha _ h2, h3⟩, (hb ob (.inr h1)).trans h4, a, cap, (hb q (.inr h2)).trans h5, ⟨h6.le, h6.capm, h6.room, h6.nil0, fun hl => ?_⟩, fun hl b off s e => ⟨(h7 hl b off s e).1, (h7 hl b off s e).2.1, ha _ (h7 hl b off s e).2.2⟩⟩
    obtain ⟨b, off, e, hbl, hc⟩ := h6.row hl
    exact ⟨b, off, e, Nat.lt_of_lt_of_le hbl hs, fun i p hp j v hv => (World.cell?_of_block (hb b (.inr (h7 hl b off none e).2.2))).trans (hc i p hp j v hv)⟩
  look := fun i d p av v w1 _ hpk hJ hk _ hpa hav ho hfr => by
    obtain ⟨⟨h1, h2, h3⟩, h4, a, cap, h5, h6, h7⟩ := hJ
    have hw := bs_works l i
    have hQ : BankAt w1 q (fun b => (¬ av b ∨ b = ob) ∧ b < w1.heap.size) (Bs l i) := ⟨⟨a, cap, h5, h6, fun hl b off s e => ⟨(h7 hl b off s e).1, fun h => h.1.elim (fun n => n (h7 hl b off s e).2.2) fun e' => (h7 hl b off s e).2.1 e'⟩⟩⟩
    have h := topMemory_look p q ob base av (Bs l i) d v w1 (by rw [do_pair hpk]; exact hk) hpa hfr (by rw [do_pair hpk]; exact ho) h1 h2 h3 h4 hQ (fun b x => (hav b x).2) hw.small hw.fail
    rw [do_pair hpk] at h
    refine h.mono fun e w2 ⟨e1, e2, e3, avq, e4, e5⟩ => ⟨e1, e2, ⟨.inl (.inl h1), .inl (.inl h2), h3⟩, e3, ?_⟩
    obtain ⟨a2, cap2, g1, g2, g3⟩ := e4.box
    refine ⟨a2, cap2, g1, g2, fun hl b off s e => ⟨(g3 hl b off s e).1, ?_, ?_⟩⟩
    · intro e'
      exact (g3 hl b off s e).2 (e5 b ⟨.inr e', by rw [e']; exact hlt h4⟩)
    · by_cases hb : b < w1.heap.size
      · refine .inl (.inl (Classical.byContradiction fun hn => (g3 hl b off s e).2 (e5 b ⟨.inl hn, hb⟩)))
      · obtain ⟨b', off', e', hbl, _⟩ := g2.row hl
        rw [e] at e'; cases e'
        exact .inr ⟨by omega, hbl⟩
set_option maxRecDepth 100000 in
theorem topMemory_any (l : List Deed) (a : Option Addr) (cap : Nat) (w : World) (hl : ActsAt w a cap l) :
    Calls Try.prog 3 #[.slice a l.length cap] w fun e w' => e = .returned (.bool true) ∧ Below w.heap.size w w' := by
  have hlb := lt_of_acts hl
  replace hl := Lib.hid hl
  go_enter Try.func3, Try.ntmps3
  go_upto_region 2 with (first | go_skip | (go_at_call 7; refine (bankNew_any _).mono ?_; rintro e w1 ⟨q, rfl, hqw, hbk, hb1⟩))
  generalize hW : World.alloc w1 _ = W0
  have hO : W0.heap[w1.heap.size]? = some (.cells #[.pointer (some ⟨q, 0, none⟩)] 23 (0, 0)) := by rw [← hW]; exact hnew w1 _
  have hb10 : Below w1.heap.size w1 W0 := by rw [← hW]; exact (Below.refl _ _).alloc (Nat.le_refl _) _
  have hB0 := bstep hb1 hb1.size hb10
  obtain ⟨a1, cap1, hg1, hp1, hn1⟩ := ((hbk fun b => ¬ (w.heap.size ≤ b)).below hb10).box
  have hql : q < w1.heap.size := (hbk fun _ => False).lt
  have hs1 := hb1.size
  have cP := playN_any 9 #[.pointer (some ⟨w1.heap.size, 0, none⟩)] w.heap.size (MemJ w1.heap.size q l) l a cap W0 (hl.out.below hB0) hlb hB0.size (topMemory_looks _ _ _ l) ⟨⟨⟨hs1, hlt hO⟩, ⟨hqw, hlt hg1⟩, by omega⟩, hO, a1, cap1, hg1, hp1, fun hl => by simp [bs_zero, Bk.new] at hl⟩
  clear hW hlb
  replace cP := Lib.hid cP
  go_wp2_with (first | go_skip | (go_at_call 8; refine cP.out.mono ?_; rintro e w2 ⟨⟨p, av, rfl, _⟩, hb2⟩))
  go_ret
  exact ⟨rfl, hB0.trans hb2⟩
end Go.Proofs.Ytggfdkkhlokmlac

