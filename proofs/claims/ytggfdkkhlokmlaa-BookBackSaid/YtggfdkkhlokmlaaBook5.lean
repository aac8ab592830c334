/- book.one: the walk. -/
import Derived.Test.YtggfdkkhlokmlaaBook4
import Derived.Test.YtggfdkkhlokmlaaCopy
import Derived.Lib.IndexBytes
namespace Go.Proofs.Ytggfdkkhlokmlaa
open Go.RowKit
attribute [local go_sem] dc_size
theorem alloc_size (w : World) (o : Obj) : (w.alloc o).heap.size = w.heap.size + 1 := by show (w.heap.push o).size = _; simp
theorem arr5_at (ns : List Int) (h : ns.length < 5) : (arr5 ns)[ns.length]? = some (.int .i64 0) := by
  have : (List.replicate (5 - ns.length) (Value.int .i64 0))[0]? = some (.int .i64 0) := by
    rw [List.getElem?_replicate, if_pos (by omega)]
  simp only [arr5, List.getElem?_toArray]
  rw [List.getElem?_append_right (by simp)]
  simpa using this
def OnePost (L : List UInt8) (w : World) (e : Ending) (w' : World) : Prop := e = .returned (.tuple #[.agg (dc (oneF L).1), .int .i64 (oneF L).2]) ∧ Below w.heap.size w w'
set_option maxRecDepth 100000 in
set_option maxHeartbeats 1000000 in
theorem one_short (s : ByteArray) (w : World) (hs : s.size = 0) :
    Calls Try.prog 69 #[.string s] w (OnePost s.data.toList w) := by
  have hL : oneF s.data.toList = (d0, 0) := oneF_none (by
    have : s.data.toList = [] := List.length_eq_zero_iff.1 (by simpa using hs)
    rw [this]; rfl)
  have hz : ((s.size : Int) == 0) = true := by simp [hs]
  have hn : Hid (oneF s.data.toList = (d0, 0)) := hL
  clear hL
  replace hs := Lib.hid hs
  go_enter Try.func69, Try.ntmps69
  go_wp2
  refine bodyPost_ret (results_act rfl _ _ _ d0 rfl (hnew _ _)) rfl ?_
  exact ⟨by rw [hn.out]; rfl, (Below.refl _ _).alloc (Nat.le_refl _) _⟩
set_option maxRecDepth 100000 in
set_option maxHeartbeats 1000000 in
theorem one_long (s : ByteArray) (n : Nat) (w : World) (hr : s.size ≤ 140737488355328) (hs : 0 < s.size) (hcn : s[0].toNat = n) (hn : n < 256) (hl : n + 3 ≤ s.size) :
    Calls Try.prog 69 #[.string s] w (OnePost s.data.toList w) := by
  have b1 : n + 1 < s.size := by omega
  have b2 : n + 2 < s.size := by omega
  have hz : ((s.size : Int) == 0) = false := by rw [beq_eq_false_iff_ne]; omega
  have hd : decide ((s.size : Int) < (n : Int) + 3) = false := decide_eq_false (by omega)
  obtain ⟨L, hL⟩ : ∃ L, L = s.data.toList := ⟨_, rfl⟩
  obtain ⟨c, tl, hct⟩ : ∃ c tl, L = c :: tl := by
    cases L with
    | nil => have := congrArg List.length hL; simp at this; omega
    | cons c tl => exact ⟨c, tl, rfl⟩
  have hget : ∀ i (h : i < s.size), (c :: tl)[i]? = some s[i] := fun i h => by
    rw [← hct]
    rw [hL, List.getElem?_eq_getElem (by simpa using h)]; rfl
  have hc0 : c.toNat = n := by
    have h0 := hget 0 hs
    simp only [List.getElem?_cons_zero, Option.some.injEq] at h0
    rw [h0]; exact hcn
  have ht0 : tl[n]? = some (s[n + 1]'b1) := by have h := hget (n + 1) (by omega); rw [List.getElem?_cons_succ] at h; exact h
  have ht1 : tl[n + 1]? = some (s[n + 2]'b2) := by have h := hget (n + 2) (by omega); rw [List.getElem?_cons_succ] at h; exact h
  have hLlen : L.length = s.size := by rw [hL]; simp
  have htl : tl.length = s.size - 1 := by rw [← hLlen, hct]; simp
  obtain ⟨sb, hE2⟩ : ∃ sb, s.extract 1 (n + 1) = sb := ⟨_, rfl⟩
  have hE1 : s.extract 1 (n + 3 - 2) = sb := hE2
  have hsb : sb.data.toList = tl.take n := by rw [← hE2, Lib.extract_data, ← hL, hct]; rfl
  have hbs : sb.size = n := by
    have h1 : sb.size = sb.data.toList.length := by simp
    rw [h1, hsb, List.length_take]; omega
  have hbs' : sb.size ≤ 140737488355328 := by omega
  have hone : oneL L = if (s[n + 1]'b1) = UInt8.ofNat (ck sb.data.toList).1 ∧ (s[n + 2]'b2) = UInt8.ofNat (ck sb.data.toList).2 then
      (match dec5 sb.data.toList with | some (x, []) => if noted x then some (x, n + 3) else none | _ => none) else none := by
    rw [hct, oneL_cons c tl (by omega), hc0, ← hsb, ht0, ht1]
    simp only [Option.some.injEq]
    rfl
  have hck := ck_lt sb.data.toList
  rw [← hL]
  clear hget ht0 ht1 hc0 htl hct hLlen hL
  clear hsb
  clear tl c
  obtain ⟨X, hX⟩ : ∃ X, (ck sb.data.toList).1 = X := ⟨_, rfl⟩
  obtain ⟨Y, hY⟩ : ∃ Y, (ck sb.data.toList).2 = Y := ⟨_, rfl⟩
  have cS : ∀ w, Calls Try.prog 66 #[.string sb] w fun e w' => e = .returned (.tuple #[.int .u8 X, .int .u8 Y]) ∧ w = w' := by
    rw [← hX, ← hY]; exact fun w => sum8_any sb w hbs'
  rw [hX, hY] at hone hck
  replace hX := Lib.hid hX
  replace hY := Lib.hid hY
  replace cS := Lib.hid cS
  replace hbs := Lib.hid hbs
  have hone2 : Hid (¬ ((s[n + 1]'b1) = UInt8.ofNat X ∧ (s[n + 2]'b2) = UInt8.ofNat Y) → oneF L = (d0, 0)) := by
    show _ → _
    intro h; rw [if_neg h] at hone; exact oneF_none hone
  have hb1 : Hid ((X : Int) = ((s[n + 1]'b1).toNat : Int) → (s[n + 1]'b1) = UInt8.ofNat X) := by
    show _ → _
    intro h; rw [show X = (s[n + 1]'b1).toNat from by omega, UInt8.ofNat_toNat]
  have hb2 : Hid (∀ v : UInt8, v = UInt8.ofNat X → v.toNat = X) := by
    show ∀ _, _
    intro v h; rw [h]; exact ofNat_small (by omega)
  have hb3 : Hid (∀ v : UInt8, v = UInt8.ofNat Y → v.toNat = Y) := by
    show ∀ _, _
    intro v h; rw [h]; exact ofNat_small (by omega)
  replace hone := Lib.hid hone
  go_enter Try.func69, Try.ntmps69
  go_wp2_with fail
  refine (cS.out _).mono ?_
  rintro e w' ⟨rfl, rfl⟩
  go_wp2_with fail
  · rename_i hxe _ hye
    have fin : oneF L = (d0, 0) := hone2.out fun h => by
      have h2 := hb3.out _ h.2
      rw [h2] at hye
      simp at hye
    refine bodyPost_ret (results_act rfl _ _ _ d0 rfl (hnew _ _)) rfl ?_
    exact ⟨by rw [fin]; rfl, (Below.refl _ _).alloc (Nat.le_refl _) _⟩
  · rename_i hxe _ hye _ _
    have hpos : (s[n + 1]'b1) = UInt8.ofNat X ∧ (s[n + 2]'b2) = UInt8.ofNat Y := ⟨hb1.out hxe, by
      have h2 : (Y : Int) = ((s[n + 2]'b2).toNat : Int) := by simpa using hye
      rw [show Y = (s[n + 2]'b2).toNat from by omega, UInt8.ofNat_toNat]⟩
    replace hone := hone.out
    rw [if_pos hpos, dec5_decs] at hone
    replace hone := Lib.hid hone
    replace hye := Lib.hid hye
    replace hxe := Lib.hid hxe
    clear hpos hb1 hb2 hb3 hone2 hck hX hY cS
    have hB0 : w.heap.size + 1 ≠ w.heap.size := by omega
    obtain ⟨B, hB⟩ : ∃ B, B = sb.data.toList := ⟨_, rfl⟩
    rw [← hB] at hone
    replace hB := Lib.hid hB
    go_loopg [5, 54] 5 (fun g b i wr => ∃ (k : Nat) (ns : List Int) (sc : ByteArray), k ≤ 5 ∧ g = 5 - k ∧ b = .string sc ∧ i = .int .i64 k ∧ sc.size ≤ 140737488355328 ∧ decs k B = some (ns, sc.data.toList) ∧ wr.heap[w.heap.size]? = some (.cells (dc d0) 44 (0, 0)) ∧ wr.heap[w.heap.size + 1]? = some (.cells (arr5 ns) 75 (0, 0)) ∧ Below w.heap.size w wr)
    case atStart => exact ⟨0, [], sb, by omega, rfl, rfl, rfl, hbs', by rw [hB.out]; rfl, hold (hnew _ _) _, by rw [← alloc_size w (.cells (dc d0) 44)]; exact hnew _ _, ((Below.refl _ _).alloc (Nat.le_refl _) _).alloc (by rw [alloc_size]; omega) _⟩
    case round =>
      obtain ⟨k, ns, sc, hk, rfl, rfl, rfl, hsc, hD, hr0, hr1, hbl⟩ := hrel
      obtain ⟨wo, rfl⟩ : ∃ wo : World, wo = wr := ⟨_, rfl⟩
      replace hD := Lib.hid hD
      have hnl := decs_len _ _ _ _ hD.out
      replace hr0 := Lib.hid hr0
      by_cases h5 : k < 5
      · obtain ⟨R, hR⟩ : ∃ R, R = sc.data.toList := ⟨_, rfl⟩
        have cN : ∀ w, Calls Try.prog 83 #[.string sc] w fun e w' => e = .returned (.tuple #[.int .i64 (numF R).1, .int .i64 (numF R).2]) ∧ w = w' := by
          rw [hR]; exact fun w => number_any sc w hsc
        rw [← hR] at hD
        rcases numF_dec1 R with ⟨h6, h7⟩ | ⟨v, q, h6, h7, hq0, hq1⟩
        · rw [h7] at cN
          have fin : oneF L = (d0, 0) := by
            have h8 : decs (k + 1) B = none := by simp [decs, hD.out, h6]
            have h9 := decs_dead B (k + 1) h8 (5 - (k + 1))
            rw [show k + 1 + (5 - (k + 1)) = 5 from by omega] at h9
            have ho := hone.out
            rw [h9] at ho
            exact oneF_none ho
          replace fin := Lib.hid fin
          replace cN := Lib.hid cN
          clear h6 h7
          replace hR := Lib.hid hR
          go_wp2_with fail
          refine (cN.out _).mono ?_
          rintro e w' ⟨rfl, rfl⟩
          go_wp2_with (first | go_skip | (refine st_row 44 _ _ rfl rfl _ rfl _ rfl _ _ hr0.out info44 rfl (dc_one d0) ?_; intro w2 hx2 hgr hsz))
          refine bodyPost_ret (results_act rfl _ _ _ d0 rfl hx2) rfl ?_
          exact ⟨by rw [fin.out]; rfl, hbl.grown hgr hbl.size fun j hj => by cases hj; exact Nat.le_refl _⟩
        · rw [h7] at cN
          obtain ⟨sd, hE⟩ : ∃ sd, sc.extract q sc.size = sd := ⟨_, rfl⟩
          have hRl : R.length = sc.size := by rw [hR]; simp
          have hsd : sd.data.toList = R.drop q := by rw [← hE, Lib.extract_data, ← hR, ← hRl]; exact List.take_of_length_le (by simp)
          have hds : sd.size ≤ 140737488355328 := by
            have h1 : sd.size = sd.data.toList.length := by simp
            rw [h1, hsd, List.length_drop]; omega
          have hqs : (q : Int) ≤ (sc.size : Int) := by omega
          have hqz : ((q : Int) == 0) = false := by rw [beq_eq_false_iff_ne]; omega
          have hD2 : decs (k + 1) B = some (ns ++ [v], sd.data.toList) := by simp [decs, hD.out, h6, hsd]
          have hset := arr5_set ns v (by omega)
          rw [hnl] at hset
          replace hset := Lib.hid hset
          replace hD2 := Lib.hid hD2
          replace hsd := Lib.hid hsd
          replace cN := Lib.hid cN
          replace hRl := Lib.hid hRl
          clear h6 h7 hD
          replace hR := Lib.hid hR
          have hcell : wo.cell? ⟨w.heap.size + 1, k, none⟩ = some (.int .i64 0) := by
            rw [cells_at hr1, ← hnl]; exact arr5_at ns (by omega)
          have hfz : wo.frozen? ⟨w.heap.size + 1, k, none⟩ = false := frozenAt hr1 _
          have hr1 := Lib.hid hr1
          have hnl := Lib.hid hnl
          go_wp2_with fail
          refine (cN.out _).mono ?_
          rintro e w' ⟨rfl, rfl⟩
          go_wp2_with fail
          go_region
          go_wp2
          go_roundg (5 - (k + 1))
          case measure => omega
          case rel => exact ⟨k + 1, ns ++ [v], sd, by omega, rfl, rfl, by go_num, hds, hD2.out, hsetOther hr0.out (by omega) _, by rw [← hset.out]; exact hsetSame hr1.out _, (hbl.setCell (by show _ ≤ w.heap.size + 1; omega) _).drew⟩
      · have hd5 : decide ((k : Int) < 5) = false := decide_eq_false (by omega)
        obtain rfl : k = 5 := by omega
        have g0 := arr5_get ns hnl 0 (by omega)
        have g1 := arr5_get ns hnl 1 (by omega)
        have g2 := arr5_get ns hnl 2 (by omega)
        have g3 := arr5_get ns hnl 3 (by omega)
        have g4 := arr5_get ns hnl 4 (by omega)
        have hcell := cells_at hr1
        replace hnl := Lib.hid hnl
        have hlo : w.heap.size < wo.heap.size := hlt hr0.out
        replace hlo := Lib.hid hlo
        have ho := hone.out
        rw [hD.out] at ho
        simp only [Option.map_some] at ho
        by_cases hgt : (0 : Int) < sc.size
        · have fin : oneF L = (d0, 0) := by
            refine oneF_none (ho.trans ?_)
            have hle : sc.size = sc.data.toList.length := by simp
            have : sc.data.toList ≠ [] := fun e => by
              rw [e] at hle
              simp only [List.length_nil] at hle
              omega
            cases hc : sc.data.toList with
            | nil => exact absurd hc this
            | cons a b => rfl
          replace fin := Lib.hid fin
          clear ho
          have hgn : 0 < sc.size := by omega
          go_wp2_with (first | go_skip | (refine st_row 44 _ _ rfl rfl _ rfl _ rfl _ _ (hold hr0.out _) info44 rfl (dc_one d0) ?_; intro w2 hx2 hgr hsz))
          refine bodyPost_ret (results_act rfl _ _ _ d0 rfl hx2) rfl ?_
          exact ⟨by rw [fin.out]; rfl, (hbl.alloc hbl.size _).grown hgr (hbl.alloc hbl.size _).size fun j hj => by cases hj; exact Nat.le_refl _⟩
        · have hgz : decide ((0 : Int) < sc.size) = false := decide_eq_false hgt
          have hgn : decide (0 < sc.size) = false := decide_eq_false (by omega)
          have hsl : sc.data.toList = [] := List.length_eq_zero_iff.1 ((by simp : sc.data.toList.length = sc.size).trans (by omega))
          rw [hsl] at ho
          simp only at ho
          cases hG : noted (deedOf ns)
          · have fin : oneF L = (d0, 0) := by
              rw [hG] at ho
              exact oneF_none ho
            have cG := goodAct_any (deedOf ns)
            rw [hG] at cG
            replace cG := Lib.hid cG
            replace fin := Lib.hid fin
            replace hG := Lib.hid hG
            replace hsl := Lib.hid hsl
            clear ho
            go_wp2_with (first | go_skip | (go_at_call 37; refine (cG.out _).mono ?_; rintro e w1 ⟨rfl, hbk⟩) | (refine ld_row 44 _ rfl rfl _ rfl _ _ _ _ (hnew _ _) Try.underlying44 rfl info44 ?_) | (refine st_row 44 _ _ rfl rfl _ rfl _ rfl _ _ (hkeep hbk (hold hr0.out _)) info44 rfl (dc_one d0) ?_; intro w2 hx2 hgr hsz))
            refine bodyPost_ret (results_act rfl _ _ _ d0 rfl hx2) rfl ?_
            have hb1 := (hbl.alloc hbl.size (.cells (dc (deedOf ns)) 44))
            have hb2 := hb1.trans (hbk.mono hb1.size)
            exact ⟨by rw [fin.out]; rfl, hb2.grown hgr hb2.size fun j hj => by cases hj; exact Nat.le_refl _⟩
          · have fin : oneF L = (deedOf ns, ((n + 3 : Nat) : Int)) := by
              rw [hG] at ho
              exact oneF_some ho
            have cG := goodAct_any (deedOf ns)
            rw [hG] at cG
            replace cG := Lib.hid cG
            replace fin := Lib.hid fin
            replace hG := Lib.hid hG
            replace hsl := Lib.hid hsl
            clear ho
            go_wp2_with (first | go_skip | (go_at_call 37; refine (cG.out _).mono ?_; rintro e w1 ⟨rfl, hbk⟩) | (refine ld_row 44 _ rfl rfl _ rfl _ _ _ _ (hnew _ _) Try.underlying44 rfl info44 ?_) | (refine ld_row 44 _ rfl rfl _ rfl _ _ _ _ (hkeep hbk (hnew _ _)) Try.underlying44 rfl info44 ?_) | (refine st_row 44 _ _ rfl rfl _ rfl _ rfl _ _ (hkeep hbk (hold hr0.out _)) info44 rfl (dc_one (deedOf ns)) ?_; intro w2 hx2 hgr hsz))
            refine bodyPost_ret (results_act rfl _ _ _ (deedOf ns) rfl hx2) rfl ?_
            have hb1 := (hbl.alloc hbl.size (.cells (dc (deedOf ns)) 44))
            have hb2 := hb1.trans (hbk.mono hb1.size)
            exact ⟨by rw [fin.out]; rfl, hb2.grown hgr hb2.size fun j hj => by cases hj; exact Nat.le_refl _⟩
  · rename_i hxe
    have fin : oneF L = (d0, 0) := hone2.out fun h => by
      have h2 := hb2.out _ h.1
      omega
    refine bodyPost_ret (results_act rfl _ _ _ d0 rfl (hnew _ _)) rfl ?_
    exact ⟨by rw [fin]; rfl, (Below.refl _ _).alloc (Nat.le_refl _) _⟩
end Go.Proofs.Ytggfdkkhlokmlaa
