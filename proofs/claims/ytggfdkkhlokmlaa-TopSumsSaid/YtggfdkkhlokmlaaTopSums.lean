/- TopSums: the walks. -/
import Derived.Deep.QuietTactic
import Derived.Test.YtggfdkkhlokmlaaPlay
namespace Go.Proofs.Ytggfdkkhlokmlaa
open Go.RowKit
theorem sents_get (X : Hs) (i k : Nat) (hi : i < 4) (hk : k < 4) : (sents X)[i * 4 + k]? = some (.int .i64 (X.sent i k)) := by
  rcases i with _ | _ | _ | _ | i <;> rcases k with _ | _ | _ | _ | k <;> first | rfl | omega
theorem sents_set (X : Hs) (i k : Nat) (v : Int) (hi : i < 4) (hk : k < 4) : (sents X).setIfInBounds (i * 4 + k) (.int .i64 v) = sents (X.setSent i k v) := by
  rcases i with _ | _ | _ | _ | i <;> rcases k with _ | _ | _ | _ | k <;> first | rfl | omega
theorem sents_ext {X h : Hs} (e : ∀ i k : Int, 0 ≤ i → i < 4 → 0 ≤ k → k < 4 → X.sent i k = h.sent i k) : sents X = sents h := by
  simp only [sents]
  rw [e 0 0, e 0 1, e 0 2, e 0 3, e 1 0, e 1 1, e 1 2, e 1 3, e 2 0, e 2 1, e 2 2, e 2 3, e 3 0, e 3 1, e 3 2, e 3 3] <;> decide
theorem eql_sents (h : Hs) (w : World) : (binOp .eql 27 (.agg (sents h)) (.agg (sents h))).run Try.prog w = .ok (.bool true) w := by
  rw [run_eql_struct, eq44 9997 _ (sents_ints h)]; rfl
theorem info27' : (Try.prog.info? 27).map (·.size) = some 16 := by kernel_rfl
attribute [local go_sem] hc_pays hc_next hc_size pc_0 pc_1 pc_2 pc_3 pc_4 pc_5 pc_size
attribute [local go_sem high] eql_sents
set_option maxRecDepth 100000 in
set_option maxHeartbeats 4000000 in
theorem topSums_look (p : Nat) (av : Nat → Prop) (B : Bk) (d : Deed) (c n : Int) (v : Value) (w : World) (hk : BankAt w p av B) (hg3 : Good3 B.h B.l) :
    Calls Try.prog 57 #[.pointer (some ⟨p, 0, none⟩), .agg (dc d), .agg (rc c n v)] w fun e w' => e = .returned (.bool true) ∧ Below w.heap.size w w' := by
  have hsent := hg3.inv.sent
  have hpays := hg3.inv.pays
  have h24 := hg3.inv.len
  have hbank := fun w hk => bankHouse_any p av B w hk
  obtain ⟨h, l, t, dn, f, m0⟩ := B
  simp only at hsent hpays hbank h24
  have hml : (l.length : Int) ≤ 9223372036854775807 := by omega
  replace hbank := Lib.hid hbank
  replace hsent := Lib.hid hsent
  replace hpays := Lib.hid hpays
  replace hk := Lib.hid hk
  go_enter Try.func57, Try.ntmps57
  go_upto_region 1 with fail
  generalize hW : World.alloc (World.alloc w _) _ = W0
  have hB0 : Below w.heap.size w W0 := by rw [← hW]; exact ((Below.refl w.heap.size w).alloc (Nat.le_refl _) _).alloc (by simp) _
  clear hW
  have hk0 := hk.out.below hB0
  go_upto_region 2 with (first | go_skip | (go_at_call 52; refine (hbank.out _ hk0).mono ?_; rintro e w1 ⟨⟨u, rfl, hown⟩, hb1⟩; obtain ⟨a1, cap1, rfl, hp1, _⟩ := hown.at_) | (refine st_new 30 _ _ rfl _ 30 _ rfl rfl rfl (hc h (.slice a1 l.length cap1)) rfl info30 rfl (hc_one _ _ rfl) ?_))
  have hX0 := hnew w1 (.cells (hc h (.slice a1 l.length cap1)) 30)
  have hp2 := hp1.alloc (.cells (hc h (.slice a1 l.length cap1)) 30)
  have hB1 := (bstep hB0 hB0.size hb1).alloc (bstep hB0 hB0.size hb1).size (.cells (hc h (.slice a1 l.length cap1)) 30)
  generalize hW : w1.alloc (.cells (hc h (.slice a1 l.length cap1)) 30) = W at *
  generalize hC0 : w1.heap.size = cx at *
  clear hW hC0 hown hp1 hb1 hB0 hk0
  have cX := cells_at hX0
  go_upto_region 3 with fail
  generalize hW2 : World.alloc W _ = W2
  have hS2 : W2.heap[W.heap.size]? = some (.cells (sents Hs.zero) 27 (0, 0)) := by rw [← hW2]; exact hnew W _
  have hB2 : Below W.heap.size W W2 := by rw [← hW2]; exact (Below.refl _ _).alloc (Nat.le_refl _) _
  clear hW2 cX
  have cX := cells_at (hkeep hB2 hX0)
  go_wp2_with fail
  clear cX
  go_loopg [16] l.length (fun g s16 wr => ∃ (j : Nat) (X : Hs), j ≤ l.length ∧ g = l.length - j ∧ s16 = .int .i64 j ∧ wr.heap[W.heap.size]? = some (.cells (sents X) 27 (0, 0)) ∧ (∀ i k : Int, 0 ≤ i → i < 4 → 0 ≤ k → k < 4 → X.sent i k = dsum (ftB i k) (l.take j)) ∧ Below W.heap.size W wr)
  case atStart => exact ⟨0, Hs.zero, by omega, rfl, rfl, hS2, fun i k _ _ _ _ => by simp [Hs.zero, dsum], hB2⟩
  case round =>
    clear hS2 hB2
    obtain ⟨j, X, hj, rfl, rfl, hS, hX, hbw⟩ := hrel
    replace hX := Lib.hid hX
    by_cases h4 : j < l.length
    · have h4d : decide ((j : Int) < l.length) = true := decide_eq_true (by omega)
      obtain ⟨q, hpk⟩ : ∃ q, l[j]? = some q := ⟨l[j], List.getElem?_eq_getElem h4⟩
      obtain ⟨b1, o1, rfl, _, hc1⟩ := (hp2.below hbw).row (by omega)
      have hcp : ∀ m u, (pc q)[m]? = some u → wr.cell? ⟨b1, o1 + j * 6 + m, none⟩ = some u := fun m u hu => by rw [Nat.add_assoc]; exact hc1 j q hpk m u hu
      have hgq := (hpays.out q (List.mem_of_getElem? hpk)).1
      have hsd := goodPay_sends hgq
      have htk : ∀ f, dsum f (l.take (j + 1)) = dsum f (l.take j) + (if q.st = 2 ∧ f q = true then q.amt else 0) := fun f => dsum_take f hpk
      obtain ⟨hf0, hf1, ht0, ht1, hne, ha0, ha1⟩ := hsd
      have hbd : ∀ f, 0 ≤ dsum f (l.take j) ∧ dsum f (l.take j) ≤ 24000000 := fun f => by
        have h1 := dsum_bound f (l.take j) fun x hx => (hpays.out x (List.mem_of_mem_take hx)).1
        have h2 : (l.take j).length ≤ 24 := by rw [List.length_take]; omega
        omega
      replace hpk := Lib.hid hpk
      replace hcp := Lib.hid hcp
      replace hgq := Lib.hid hgq
      replace htk := Lib.hid htk
      replace hbd := Lib.hid hbd
      clear hc1
      go_upto_region 6 with (first | go_skip | (refine ld_cells 36 _ rfl rfl b1 (o1 + j * 6) rfl (pc q) _ Try.underlying36 rfl info36 hcp.out ?_) | (refine st_new 36 _ _ rfl _ 36 _ rfl rfl rfl (pc q) rfl info36 rfl (pc_one q) ?_))
      have hQ := hnew wr (.cells (pc q) 36)
      have hS3 := hold hS (.cells (pc q) 36)
      have hbw3 := hbw.alloc hbw.size (.cells (pc q) 36)
      generalize hW3 : wr.alloc (.cells (pc q) 36) = w3 at *
      have hqs : W.heap.size < wr.heap.size := hlt hS
      generalize wr.heap.size = qb at *
      clear hW3 hS hbw hcp
      have cQ := cells_at hQ
      by_cases h2 : q.st = 2
      · obtain ⟨i, hi⟩ : ∃ i : Nat, q.frm = i := ⟨q.frm.toNat, by omega⟩
        obtain ⟨k, hk'⟩ : ∃ k : Nat, q.to = k := ⟨q.to.toNat, by omega⟩
        have hi4 : i < 4 := by omega
        have hk4 : k < 4 := by omega
        have hii : (i : Int) < 4 := by omega
        have hkk : (k : Int) < 4 := by omega
        have q2 : (q.st == 2) = true := by rw [beq_iff_eq]; exact h2
        have hxs := hX.out i k (by omega) (by omega) (by omega) (by omega)
        have hbx := hbd.out (ftB i k)
        rw [← hxs] at hbx
        have hstep : ∀ i' k' : Int, 0 ≤ i' → i' < 4 → 0 ≤ k' → k' < 4 → (X.setSent i k (X.sent i k + q.amt)).sent i' k' = dsum (ftB i' k') (l.take (j + 1)) := fun i' k' i0 i1 k0 k1 => by
          rw [htk.out, ← hX.out i' k' i0 i1 k0 k1]
          simp only [Hs.setSent, ftB, hi, hk', h2]
          by_cases e : i' = i ∧ k' = k
          · obtain ⟨rfl, rfl⟩ := e
            simp
          · rw [if_neg e, if_neg (by simp only [true_and, Bool.and_eq_true, beq_iff_eq]; exact fun h => e ⟨h.1.symm, h.2.symm⟩)]
            simp
        replace hstep := Lib.hid hstep
        have hcI : ∀ w' : World, Below w3.heap.size w3 w' → w'.cell? ⟨qb, 0, none⟩ = some (.int .i64 (i : Int)) ∧ w'.cell? ⟨qb, 1, none⟩ = some (.int .i64 (k : Int)) ∧ w'.cell? ⟨qb, 2, none⟩ = some (.int .i64 q.amt) ∧ w'.cell? ⟨W.heap.size, i * 4 + k, none⟩ = some (.int .i64 (X.sent i k)) := fun w' hb =>
          ⟨(cells_at (hkeep hb hQ) 0).trans (by rw [pc_0, hi]), (cells_at (hkeep hb hQ) 1).trans (by rw [pc_1, hk']), (cells_at (hkeep hb hQ) 2).trans (pc_2 _), (cells_at (hkeep hb hS3) _).trans (sents_get X i k hi4 hk4)⟩
        replace hcI := Lib.hid hcI
        replace hxs := Lib.hid hxs
        replace hi := Lib.hid hi
        replace hk' := Lib.hid hk'
        replace h2 := Lib.hid h2
        go_upto_region 7 with fail
        have hI0 : Below w3.heap.size w3 w3.drew := (Below.refl _ _).drew
        refine wpG_start (Below w3.heap.size w3) 11 (by kernel_rfl) ?_
        have hSd : w3.drew.heap[W.heap.size]? = some (.cells (sents X) 27 (0, 0)) := hS3
        have hbd3 : Below W.heap.size W w3.drew := hbw3.drew
        clear cQ
        generalize World.drew w3 = wd at *
        refine wpG_put 23 (i := 0) (oi := _) (v := (.pointer (some ⟨qb, 0, none⟩))) [0] rfl rfl (by kernel_rfl) (by kernel_rfl) (by kernel_rfl) (by kernel_rfl) (fun _ _ _ h => h) hI0 ?hy1 ?rs1
        case hy1 => exact Or.inl ⟨by rfl, by intro w' hb; obtain ⟨c1, c2, c3, c4⟩ := hcI.out w' hb; go_simp; first | done | exact IntWalk.i64_in _ (by omega)⟩
        (try simp only [Act.put]); (try simp only [List.setIfInBounds_toArray]); (try simp only [List.set_cons_succ]); (try simp only [List.set_cons_zero]); (try simp only [List.size_toArray])
        refine wpG_put 24 (i := 1) (oi := _) (v := (.int .i64 (i : Int))) [1] rfl rfl (by kernel_rfl) (by kernel_rfl) (by kernel_rfl) (by kernel_rfl) (fun _ _ _ h => h) hI0 ?hy2 ?rs2
        case hy2 => exact Or.inl ⟨by rfl, by intro w' hb; obtain ⟨c1, c2, c3, c4⟩ := hcI.out w' hb; go_simp; first | done | exact IntWalk.i64_in _ (by omega)⟩
        (try simp only [Act.put]); (try simp only [List.setIfInBounds_toArray]); (try simp only [List.set_cons_succ]); (try simp only [List.set_cons_zero]); (try simp only [List.size_toArray])
        refine wpG_put 25 (i := 2) (oi := _) (v := (.pointer (some ⟨qb, 1, none⟩))) [2] rfl rfl (by kernel_rfl) (by kernel_rfl) (by kernel_rfl) (by kernel_rfl) (fun _ _ _ h => h) hI0 ?hy3 ?rs3
        case hy3 => exact Or.inl ⟨by rfl, by intro w' hb; obtain ⟨c1, c2, c3, c4⟩ := hcI.out w' hb; go_simp; first | done | exact IntWalk.i64_in _ (by omega)⟩
        (try simp only [Act.put]); (try simp only [List.setIfInBounds_toArray]); (try simp only [List.set_cons_succ]); (try simp only [List.set_cons_zero]); (try simp only [List.size_toArray])
        refine wpG_put 26 (i := 3) (oi := _) (v := (.int .i64 (k : Int))) [3] rfl rfl (by kernel_rfl) (by kernel_rfl) (by kernel_rfl) (by kernel_rfl) (fun _ _ _ h => h) hI0 ?hy4 ?rs4
        case hy4 => exact Or.inl ⟨by rfl, by intro w' hb; obtain ⟨c1, c2, c3, c4⟩ := hcI.out w' hb; go_simp; first | done | exact IntWalk.i64_in _ (by omega)⟩
        (try simp only [Act.put]); (try simp only [List.setIfInBounds_toArray]); (try simp only [List.set_cons_succ]); (try simp only [List.set_cons_zero]); (try simp only [List.size_toArray])
        refine wpG_put 27 (i := 4) (oi := _) (v := (.pointer (some ⟨W.heap.size, i * 4, none⟩))) [4] rfl rfl (by kernel_rfl) (by kernel_rfl) (by kernel_rfl) (by kernel_rfl) (fun _ _ _ h => h) hI0 ?hy5 ?rs5
        case hy5 => exact Or.inl ⟨by rfl, by intro w' hb; obtain ⟨c1, c2, c3, c4⟩ := hcI.out w' hb; go_simp; first | done | exact IntWalk.i64_in _ (by omega)⟩
        (try simp only [Act.put]); (try simp only [List.setIfInBounds_toArray]); (try simp only [List.set_cons_succ]); (try simp only [List.set_cons_zero]); (try simp only [List.size_toArray])
        refine wpG_put 28 (i := 5) (oi := _) (v := (.pointer (some ⟨W.heap.size, i * 4 + k, none⟩))) [5] rfl rfl (by kernel_rfl) (by kernel_rfl) (by kernel_rfl) (by kernel_rfl) (fun _ _ _ h => h) hI0 ?hy6 ?rs6
        case hy6 => exact Or.inl ⟨by rfl, by intro w' hb; obtain ⟨c1, c2, c3, c4⟩ := hcI.out w' hb; go_simp; first | done | exact IntWalk.i64_in _ (by omega)⟩
        (try simp only [Act.put]); (try simp only [List.setIfInBounds_toArray]); (try simp only [List.set_cons_succ]); (try simp only [List.set_cons_zero]); (try simp only [List.size_toArray])
        refine wpG_put 29 (i := 6) (oi := _) (v := (.int .i64 (X.sent i k))) [6] rfl rfl (by kernel_rfl) (by kernel_rfl) (by kernel_rfl) (by kernel_rfl) (fun _ _ _ h => h) hI0 ?hy7 ?rs7
        case hy7 => exact Or.inl ⟨by rfl, by intro w' hb; obtain ⟨c1, c2, c3, c4⟩ := hcI.out w' hb; go_simp; first | done | exact IntWalk.i64_in _ (by omega)⟩
        (try simp only [Act.put]); (try simp only [List.setIfInBounds_toArray]); (try simp only [List.set_cons_succ]); (try simp only [List.set_cons_zero]); (try simp only [List.size_toArray])
        refine wpG_put 30 (i := 7) (oi := _) (v := (.pointer (some ⟨qb, 2, none⟩))) [7] rfl rfl (by kernel_rfl) (by kernel_rfl) (by kernel_rfl) (by kernel_rfl) (fun _ _ _ h => h) hI0 ?hy8 ?rs8
        case hy8 => exact Or.inl ⟨by rfl, by intro w' hb; obtain ⟨c1, c2, c3, c4⟩ := hcI.out w' hb; go_simp; first | done | exact IntWalk.i64_in _ (by omega)⟩
        (try simp only [Act.put]); (try simp only [List.setIfInBounds_toArray]); (try simp only [List.set_cons_succ]); (try simp only [List.set_cons_zero]); (try simp only [List.size_toArray])
        refine wpG_put 31 (i := 8) (oi := _) (v := (.int .i64 q.amt)) [8] rfl rfl (by kernel_rfl) (by kernel_rfl) (by kernel_rfl) (by kernel_rfl) (fun _ _ _ h => h) hI0 ?hy9 ?rs9
        case hy9 => exact Or.inl ⟨by rfl, by intro w' hb; obtain ⟨c1, c2, c3, c4⟩ := hcI.out w' hb; go_simp; first | done | exact IntWalk.i64_in _ (by omega)⟩
        (try simp only [Act.put]); (try simp only [List.setIfInBounds_toArray]); (try simp only [List.set_cons_succ]); (try simp only [List.set_cons_zero]); (try simp only [List.size_toArray])
        refine wpG_put 32 (i := 9) (oi := _) (v := (.int .i64 (X.sent i k + q.amt))) [9] rfl rfl (by kernel_rfl) (by kernel_rfl) (by kernel_rfl) (by kernel_rfl) (fun _ _ _ h => h) hI0 ?hy10 ?rs10
        case hy10 => exact Or.inl ⟨by rfl, by intro w' hb; obtain ⟨c1, c2, c3, c4⟩ := hcI.out w' hb; go_simp; first | done | exact IntWalk.i64_in _ (by omega)⟩
        (try simp only [Act.put]); (try simp only [List.setIfInBounds_toArray]); (try simp only [List.set_cons_succ]); (try simp only [List.set_cons_zero]); (try simp only [List.size_toArray])
        refine wpG_put 33 (i := 10) (oi := _) (v := (.pointer (some ⟨W.heap.size, i * 4, none⟩))) [10] rfl rfl (by kernel_rfl) (by kernel_rfl) (by kernel_rfl) (by kernel_rfl) (fun _ _ _ h => h) hI0 ?hy11 ?rs11
        case hy11 => exact Or.inl ⟨by rfl, by intro w' hb; obtain ⟨c1, c2, c3, c4⟩ := hcI.out w' hb; go_simp; first | done | exact IntWalk.i64_in _ (by omega)⟩
        (try simp only [Act.put]); (try simp only [List.setIfInBounds_toArray]); (try simp only [List.set_cons_succ]); (try simp only [List.set_cons_zero]); (try simp only [List.size_toArray])
        refine wpG_drop 11 rfl (by kernel_rfl) ?_
        simp only [List.drop_succ_cons, List.drop_zero]
        clear hI0 hcI
        have hset := hsetSame (i := i * 4 + k) hSd (.int .i64 (X.sent i k + q.amt))
        rw [sents_set X i k _ hi4 hk4] at hset
        have fS := frozenAt hSd
        have cS : wd.cell? ⟨W.heap.size, i * 4 + k, none⟩ = some (.int .i64 (X.sent i k)) := (cells_at hSd _).trans (sents_get X i k hi4 hk4)
        replace hset := Lib.hid hset
        go_wp2_with fail
        have hbw4 := hbd3.setCell (p := ⟨W.heap.size, i * 4 + k, none⟩) (Nat.le_refl _) (.int .i64 (X.sent i k + q.amt))
        go_roundg (l.length - (j + 1))
        case measure => omega
        case rel => exact ⟨j + 1, X.setSent i k (X.sent i k + q.amt), by omega, rfl, by go_num, hset.out, hstep.out, hbw4⟩
      · have q2 : (q.st == 2) = false := by rw [beq_eq_false_iff_ne]; exact h2
        have hstep : ∀ i' k' : Int, 0 ≤ i' → i' < 4 → 0 ≤ k' → k' < 4 → X.sent i' k' = dsum (ftB i' k') (l.take (j + 1)) := fun i' k' i0 i1 k0 k1 => by
          rw [htk.out, ← hX.out i' k' i0 i1 k0 k1, if_neg fun h => h2 h.1]; omega
        replace hstep := Lib.hid hstep
        replace h2 := Lib.hid h2
        go_wp2_with fail
        go_roundg (l.length - (j + 1))
        case measure => omega
        case rel => exact ⟨j + 1, X, by omega, rfl, by go_num, hS3, hstep.out, hbw3⟩
    · have h4d : decide ((j : Int) < l.length) = false := decide_eq_false (by omega)
      obtain rfl : j = l.length := by omega
      have hXs : sents X = sents h := sents_ext fun i k i0 i1 k0 k1 => by rw [hX.out i k i0 i1 k0 k1, List.take_length, hsent.out i k i0 i1 k0 k1]
      rw [hXs] at hS
      replace hXs := Lib.hid hXs
      have hX9 := hkeep hbw hX0
      have hB9 := hB1.trans (hbw.mono hB1.size)
      go_wp2_with (first | go_skip | (refine ld_row 27 _ rfl rfl _ rfl _ _ _ _ hS Try.underlying27 rfl info27' ?_) | (refine ld_mid 27 _ rfl rfl _ 8 rfl _ _ (sents h) _ _ hX9 Try.underlying27 rfl info27' (hc_sents h _) ?_))
      go_ret
      exact ⟨rfl, hB9⟩
theorem topSums_looks (base : Nat) (l : List Deed) : Looks 57 #[] base (fun _ _ _ => True) l where
  enter := fun args w => by kernel_rfl
  keep := fun _ _ _ _ _ _ _ _ _ => trivial
  look := fun i d p av v w1 _ _ _ hk _ _ _ _ _ => (topSums_look p av _ d _ _ v w1 hk (bs_good l (i + 1))).mono fun _ _ h => ⟨h.1, only_new h.2, trivial⟩
set_option maxRecDepth 100000 in
theorem topSums_any (l : List Deed) (a : Option Addr) (cap : Nat) (w : World) (hl : ActsAt w a cap l) :
    Calls Try.prog 13 #[.slice a l.length cap] w fun e w' => e = .returned (.bool true) ∧ Below w.heap.size w w' := by
  have hlb : 0 < l.length → ∀ b off s, a = some ⟨b, off, s⟩ → b < w.heap.size := fun h b off s e => by
    obtain ⟨b', off', e', hbl, _⟩ := hl.row h
    rw [e] at e'; cases e'; exact hbl
  have cP := play_any 57 #[] w.heap.size (fun _ _ _ => True) l a cap w hl hlb (Nat.le_refl _) (topSums_looks _ l) trivial
  clear hlb
  replace cP := Lib.hid cP
  go_enter Try.func13, Try.ntmps13
  go_wp2_with (first | go_skip | (go_at_call 50; refine cP.out.mono ?_; rintro e w1 ⟨⟨p, av, rfl, _⟩, hb1⟩))
  go_ret
  exact ⟨rfl, hb1⟩
end Go.Proofs.Ytggfdkkhlokmlaa

