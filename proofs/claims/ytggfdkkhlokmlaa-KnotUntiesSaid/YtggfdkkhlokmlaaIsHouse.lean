/- The reference's IsHouse. -/
import Derived.Test.YtggfdkkhlokmlaaGood
import Derived.Deep.LoopGhost
import Derived.Deep.DeepCutAuto
namespace Go.Proofs.Ytggfdkkhlokmlaa
open Go.RowKit
attribute [local go_sem] hc_has hc_cr hc_sent hc_lim hc_pays hc_next hc_size pc_0 pc_1 pc_2 pc_3 pc_4 pc_5
attribute [local go_sem low] hc_hasN hc_crN hc_sentN hc_limN

/-- The first k banks are fine, and the numbers ahead of them. -/
structure UpTo (h : Hs) (l : List Pay) (k : Nat) : Prop where
  len : l.length < 25
  next : sm 0 h.next 1048576 = true
  banks : ∀ j : Nat, j < k → BankOk h j
/-- .. of bank k what stands ahead of its cells. -/
structure Head (h : Hs) (l : List Pay) (k : Nat) : Prop where
  up : UpTo h l k
  has : sm (-1099511627776) (h.has k) 1099511627776 = true
  cr : sm 0 (h.cr k) 1000000 = true
  own : h.sent k k = 0
structure Cells (h : Hs) (l : List Pay) (k m : Nat) : Prop where
  head : Head h l k
  cells : ∀ j : Nat, j < m → sm 0 (h.sent k j) 1099511627776 = true ∧ sm (-1) (h.lim k j) 1000000 = true
theorem Cells.up {h : Hs} {l : List Pay} {k : Nat} (hk : k < 4) : Cells h l k 4 ↔ UpTo h l (k + 1) := by
  constructor
  · intro c
    refine ⟨c.head.up.len, c.head.up.next, fun j hj => ?_⟩
    by_cases e : j = k
    · subst e
      refine ⟨c.head.has, c.head.cr, fun i i0 i1 => ?_⟩
      obtain ⟨n, rfl⟩ := Int.eq_ofNat_of_zero_le i0
      have := c.cells n (by omega)
      exact ⟨this.1, this.2, fun e => by rw [← e]; exact c.head.own⟩
    · exact c.head.up.banks j (by omega)
  · intro u
    have b := u.banks k (by omega)
    have hc4 : ∀ j : Nat, j < 4 → CellOk h k j := fun j hj => b.cells j (by omega) (by omega)
    exact ⟨⟨⟨u.len, u.next, fun j hj => u.banks j (by omega)⟩, b.has, b.cr, (hc4 k hk).d rfl⟩, fun j hj => ⟨(hc4 j hj).s, (hc4 j hj).l⟩⟩
/-- The first m payments are fine, too. -/
structure PaysTo (h : Hs) (l : List Pay) (m : Nat) : Prop where
  up : UpTo h l 4
  pays : ∀ (j : Nat) (p : Pay), j < m → l[j]? = some p → goodPay p = true ∧ p.seq < h.next
  dup : ∀ (i j : Nat) (p q : Pay), i < j → j < m → l[i]? = some p → l[j]? = some q → q.seq ≠ p.seq
structure PayHead (h : Hs) (l : List Pay) (m : Nat) : Prop where
  up : PaysTo h l m
  pay : ∀ p, l[m]? = some p → goodPay p = true ∧ p.seq < h.next
structure Others (h : Hs) (l : List Pay) (m n : Nat) : Prop where
  head : PayHead h l m
  dup : ∀ (i : Nat) (p q : Pay), i < n → l[i]? = some p → l[m]? = some q → q.seq ≠ p.seq
theorem Others.up {h : Hs} {l : List Pay} {m : Nat} : Others h l m m ↔ PaysTo h l (m + 1) := by
  constructor
  · intro o
    refine ⟨o.head.up.up, fun j p hj hp => ?_, fun i j p q hij hj hp hq => ?_⟩
    · by_cases e : j = m
      · subst e; exact o.head.pay p hp
      · exact o.head.up.pays j p (by omega) hp
    · by_cases e : j = m
      · subst e; exact o.dup i p q hij hp hq
      · exact o.head.up.dup i j p q hij (by omega) hp hq
  · intro u
    exact ⟨⟨⟨u.up, fun j p hj hp => u.pays j p (by omega) hp, fun i j p q hij hj => u.dup i j p q hij (by omega)⟩, fun p hp => u.pays m p (by omega) hp⟩, fun i p q hi hp hq => u.dup i m p q hi (by omega) hp hq⟩
theorem PaysTo.good {h : Hs} {l : List Pay} : PaysTo h l l.length ↔ GoodP h l := by
  constructor
  · intro u
    refine ⟨by have := u.up.len; omega, u.up.next, fun i i0 i1 => ?_, fun p hp => ?_, ?_⟩
    · obtain ⟨n, rfl⟩ := Int.eq_ofNat_of_zero_le i0
      exact u.up.banks n (by omega)
    · obtain ⟨j, hj⟩ := List.getElem?_of_mem hp
      exact u.pays j p (List.getElem?_eq_some_iff.1 hj).1 hj
    · refine List.pairwise_iff_getElem.2 fun i j hi hj hij e => ?_
      rw [List.length_map] at hi hj
      rw [List.getElem_map, List.getElem_map] at e
      exact u.dup i j _ _ hij hj (List.getElem?_eq_getElem hi) (List.getElem?_eq_getElem hj) e.symm
  · intro g
    refine ⟨⟨by have := g.len; omega, g.next, fun j hj => g.banks j (by omega) (by omega)⟩, fun j p hj hp => g.pays p (List.mem_of_getElem? hp), fun i j p q hij hj hp hq e => ?_⟩
    obtain ⟨hi', hpe⟩ := List.getElem?_eq_some_iff.1 hp
    obtain ⟨hj', hqe⟩ := List.getElem?_eq_some_iff.1 hq
    refine List.pairwise_iff_getElem.1 g.nodup i j (by simpa using hi') (by simpa using hj') hij ?_
    rw [List.getElem_map, List.getElem_map, hpe, hqe, e]

set_option maxRecDepth 100000 in
set_option maxHeartbeats 4000000 in
theorem isHouse_any (h : Hs) (l : List Pay) (a : Option Addr) (cap : Nat) (w : World) (hp : PaysAt w a cap l) :
    Calls Try.prog 17 #[.agg (hc h (.slice a l.length cap))] w (GoodPost h l w) := by
  go_enter Try.func17, Try.ntmps17
  go_upto_region 1 with fail
  go_cut [3] (fun s3 wx => ∃ b : Bool, s3 = .bool b ∧ (b = true ↔ UpTo h l 0) ∧ wx = w.alloc (.cells (hc h (.slice a l.length cap)) 30))
  case first =>
    by_cases hl : l.length < 25
    · have hl' : (l.length : Int) < 25 := by omega
      go_wp2_with (go_at_call 64; refine (within_any _ _ _ _).mono ?_; rintro e w' ⟨rfl, rfl⟩)
      go_meet
      exact ⟨_, rfl, ⟨fun e => ⟨hl, e, fun j hj => absurd hj (by omega)⟩, fun u => u.next⟩, rfl⟩
    · have hl' : decide ((l.length : Int) < 25) = false := by simp; omega
      go_wp2_with (go_at_call 64; refine (within_any _ _ _ _).mono ?_; rintro e w' ⟨rfl, rfl⟩)
      go_meet
      exact ⟨_, rfl, ⟨nofun, fun u => absurd u.len hl⟩, rfl⟩
  case rest =>
    obtain ⟨b0, rfl, hb0, rfl⟩ := hcut
    replace hb0 := Lib.hid hb0
    go_wp2_with fail
    go_loopg [3, 19] 4 (fun g t i wr => ∃ k : Nat, k ≤ 4 ∧ g = 4 - k ∧ i = .int .i64 k ∧ (∃ b : Bool, t = .bool b ∧ (b = true ↔ UpTo h l k)) ∧ wr.heap[w.heap.size]? = some (.cells (hc h (.slice a l.length cap)) 30 (0, 0)) ∧ Below w.heap.size w wr)
    case atStart => exact ⟨0, by omega, rfl, rfl, ⟨b0, rfl, hb0.out⟩, hnew _ _, (Below.refl _ _).alloc (Nat.le_refl _) _⟩
    case round =>
      obtain ⟨k, hk, rfl, rfl, ⟨b, rfl, hbu⟩, hg, hb⟩ := hrel
      have hsz := hb.size
      have hcl := cells_at hg
      replace hbu := Lib.hid hbu
      by_cases h4 : k < 4
      · go_upto_region 5 with fail
        go_cut [3] (fun s3 wx => ∃ b : Bool, s3 = .bool b ∧ (b = true ↔ Head h l k) ∧ wx = wr)
        case first =>
          cases b
          · go_wp2_with (go_at_call 64; refine (within_any _ _ _ _).mono ?_; rintro e w' ⟨rfl, rfl⟩)
            go_meet
            exact ⟨false, rfl, ⟨nofun, fun u => by have := hbu.out.2 u.up; cases this⟩, rfl⟩
          · cases e1 : sm (-1099511627776) (h.has k) 1099511627776
            · go_wp2_with (go_at_call 64; refine (within_any _ _ _ _).mono ?_; rintro e w' ⟨rfl, rfl⟩)
              go_meet
              exact ⟨false, rfl, ⟨nofun, fun u => by have := u.has; rw [e1] at this; cases this⟩, rfl⟩
            cases e2 : sm 0 (h.cr k) 1000000
            · go_wp2_with (go_at_call 64; refine (within_any _ _ _ _).mono ?_; rintro e w' ⟨rfl, rfl⟩)
              go_meet
              exact ⟨false, rfl, ⟨nofun, fun u => by have := u.cr; rw [e2] at this; cases this⟩, rfl⟩
            go_wp2_with (go_at_call 64; refine (within_any _ _ _ _).mono ?_; rintro e w' ⟨rfl, rfl⟩)
            go_meet
            exact ⟨_, rfl, ⟨fun e => ⟨hbu.out.1 (by trivial), e1, e2, by simpa using e⟩, fun u => by simpa using u.own⟩, rfl⟩
        case rest =>
          obtain ⟨b1, rfl, hb1, rfl⟩ := hcut
          replace hb1 := Lib.hid hb1
          go_wp2_with fail
          clear hcl
          go_loopg [3, 48] 4 (fun g t i wr => ∃ m : Nat, m ≤ 4 ∧ g = 4 - m ∧ i = .int .i64 m ∧ (∃ b : Bool, t = .bool b ∧ (b = true ↔ Cells h l k m)) ∧ wr.heap[w.heap.size]? = some (.cells (hc h (.slice a l.length cap)) 30 (0, 0)) ∧ Below w.heap.size w wr)
          case atStart => exact ⟨0, by omega, rfl, rfl, ⟨b1, rfl, ⟨fun e => ⟨hb1.out.1 e, fun j hj => absurd hj (by omega)⟩, fun c => hb1.out.2 c.head⟩⟩, hg, hb⟩
          case round =>
            clear hg hb hsz
            obtain ⟨m, hm, rfl, rfl, ⟨b2, rfl, hb2⟩, hg, hb⟩ := hrel
            have hsz := hb.size
            have hcl := cells_at hg
            replace hb2 := Lib.hid hb2
            by_cases h5 : m < 4
            · cases b2
              · go_wp2_with (go_at_call 64; refine (within_any _ _ _ _).mono ?_; rintro e w' ⟨rfl, rfl⟩)
                go_roundg (4 - (m + 1))
                case measure => omega
                case rel => exact ⟨m + 1, by omega, rfl, by go_num, ⟨false, rfl, ⟨nofun, fun c => by have := hb2.out.2 ⟨c.head, fun j hj => c.cells j (by omega)⟩; cases this⟩⟩, hg, hb⟩
              cases e3 : sm 0 (h.sent k m) 1099511627776
              · go_wp2_with (go_at_call 64; refine (within_any _ _ _ _).mono ?_; rintro e w' ⟨rfl, rfl⟩)
                go_roundg (4 - (m + 1))
                case measure => omega
                case rel => exact ⟨m + 1, by omega, rfl, by go_num, ⟨false, rfl, ⟨nofun, fun c => by have := (c.cells m (by omega)).1; rw [e3] at this; cases this⟩⟩, hg, hb⟩
              go_wp2_with (go_at_call 64; refine (within_any _ _ _ _).mono ?_; rintro e w' ⟨rfl, rfl⟩)
              go_roundg (4 - (m + 1))
              case measure => omega
              case rel =>
                refine ⟨m + 1, by omega, rfl, by go_num, ⟨_, rfl, ⟨fun e => ⟨(hb2.out.1 (by trivial)).head, fun j hj => ?_⟩, fun c => (c.cells m (by omega)).2⟩⟩, hg, hb⟩
                by_cases ej : j = m
                · subst ej; exact ⟨e3, e⟩
                · exact (hb2.out.1 (by trivial)).cells j (by omega)
            · have hd5 : decide ((m : Int) < 4) = false := by simp; omega
              obtain hm4 : m = 4 := by omega
              replace hm4 := Lib.hid hm4
              go_wp2_with fail
              go_roundg (4 - (k + 1))
              case measure => omega
              case rel => exact ⟨k + 1, by omega, rfl, by go_num, ⟨b2, rfl, by rw [hb2.out, hm4.out]; exact Cells.up h4⟩, hg, hb⟩
      · have hd4 : decide ((k : Int) < 4) = false := by simp; omega
        obtain hk4 : k = 4 := by omega
        replace hk4 := Lib.hid hk4
        go_wp2_with fail
        clear hcl
        go_loopg [3, 75] l.length (fun g t i wr => ∃ m : Nat, m ≤ l.length ∧ g = l.length - m ∧ i = .int .i64 m ∧ (∃ b : Bool, t = .bool b ∧ (b = true ↔ PaysTo h l m)) ∧ wr.heap[w.heap.size]? = some (.cells (hc h (.slice a l.length cap)) 30 (0, 0)) ∧ Below w.heap.size w wr)
        case atStart => exact ⟨0, by omega, rfl, rfl, ⟨b, rfl, ⟨fun e => ⟨hk4.out ▸ hbu.out.1 e, fun j p hj => absurd hj (by omega), fun i j p q hij hj => absurd hj (by omega)⟩, fun c => hbu.out.2 (hk4.out ▸ c.up)⟩⟩, hg, hb⟩
        case round =>
          clear hg hb hsz
          obtain ⟨m, hm, rfl, rfl, ⟨b2, rfl, hb2⟩, hg, hb⟩ := hrel
          have hsz := hb.size
          have hcl := cells_at hg
          replace hb2 := Lib.hid hb2
          by_cases h5 : m < l.length
          · obtain ⟨p, hpm⟩ : ∃ p, l[m]? = some p := ⟨l[m], List.getElem?_eq_getElem h5⟩
            obtain ⟨bp, off, rfl, hbl, hpc⟩ := hp.row (by omega)
            have hpw : ∀ i q, l[i]? = some q → ∀ j v, (pc q)[j]? = some v → wr.cell? ⟨bp, off + i * 6 + j, none⟩ = some v := fun i q hq j v hv => by
              rw [Nat.add_assoc]
              exact (hb.cell (p := ⟨bp, _, none⟩) hbl).trans (hpc i q hq j v hv)
            have hpc' := Lib.hid (hpw m p hpm)
            have hpw2 : ∀ wx, Below w.heap.size w wx → ∀ i q, l[i]? = some q → ∀ j v, (pc q)[j]? = some v → wx.cell? ⟨bp, off + i * 6 + j, none⟩ = some v := fun wx hb i q hq j v hv => by
              rw [Nat.add_assoc]
              exact (hb.cell (p := ⟨bp, _, none⟩) hbl).trans (hpc i q hq j v hv)
            replace hpw2 := Lib.hid hpw2
            clear hpw
            have hPm := Lib.hid hpm
            clear hpc hpm
            go_upto_region 15 with (first | go_skip | (refine ld_cells 36 _ rfl rfl _ _ rfl (pc p) _ Try.underlying36 rfl info36 hpc'.out ?_) | (refine st_new 36 _ _ rfl _ 36 _ rfl rfl rfl (pc p) rfl info36 rfl (pc_one p) ?_))
            have hqq := hnew wr (.cells (pc p) 36)
            have hgg := hold hg (.cells (pc p) 36)
            have hgl := hlt hg
            clear hcl
            have hlm : l.length ≤ 9223372036854775807 := by have h1 := hp.le; have h2 := hp.capm; unfold maxLen at h2; omega
            simp only [Act.put]
            go_cut [3] (fun s3 wx => ∃ b : Bool, s3 = .bool b ∧ (b = true ↔ PayHead h l m) ∧ wx.heap[w.heap.size]? = some (.cells (hc h (.slice (some ⟨bp, off, none⟩) l.length cap)) 30 (0, 0)) ∧ wx.heap[wr.heap.size]? = some (.cells (pc p) 36 (0, 0)) ∧ Below w.heap.size w wx)
            case first =>
              cases b2
              · go_wp2_with fail
                go_meet
                exact ⟨false, rfl, ⟨nofun, fun c => by have := hb2.out.2 c.up; cases this⟩, hgg, hqq, hb.alloc hsz _⟩
              cases g1 : goodPay p
              · go_wp2_with (first | go_skip | (go_at_call 23; refine (isPay_any p _).mono ?_; rintro e w1 ⟨rfl, hb1⟩; have hq1 := hkeep hb1 hqq; have hcq := cells_at hq1; have hg1 := hkeep hb1 hgg; have hcl1 := cells_at hg1) | (refine ld_row 36 _ rfl rfl _ rfl _ (pc p) _ _ hqq Try.underlying36 rfl info36 ?_))
                go_meet
                exact ⟨false, rfl, ⟨nofun, fun c => by have := (c.pay p hPm.out).1; rw [g1] at this; cases this⟩, hg1, hq1, bstep (hb.alloc hsz _) (by simp; omega) hb1⟩
              go_wp2_with (first | go_skip | (go_at_call 23; refine (isPay_any p _).mono ?_; rintro e w1 ⟨rfl, hb1⟩; have hq1 := hkeep hb1 hqq; have hcq := cells_at hq1; have hg1 := hkeep hb1 hgg; have hcl1 := cells_at hg1) | (refine ld_row 36 _ rfl rfl _ rfl _ (pc p) _ _ hqq Try.underlying36 rfl info36 ?_))
              go_meet
              exact ⟨_, rfl, ⟨fun e => ⟨hb2.out.1 (by trivial), fun q hq => by
                rw [hPm.out] at hq; cases hq; exact ⟨g1, of_decide_eq_true e⟩⟩, fun c => decide_eq_true (c.pay p hPm.out).2⟩, hg1, hq1, bstep (hb.alloc hsz _) (by simp; omega) hb1⟩
            case rest =>
              clear hqq hgg hgl hg hb hsz
              obtain ⟨b3, rfl, hb3, hg, hq, hb⟩ := hcut
              have hsz := hb.size
              have hcl := cells_at hg
              replace hb3 := Lib.hid hb3
              have hmc : m ≤ cap := by have := hp.le; omega
              have hcm := hp.capm
              go_wp2_with fail
              clear hcl hmc hcm
              obtain ⟨wo, rfl⟩ : ∃ wo : World, wo = wr := ⟨_, rfl⟩
              go_loopg [3, 97] m (fun g t i wx => ∃ n : Nat, n ≤ m ∧ g = m - n ∧ i = .int .i64 n ∧ (∃ b : Bool, t = .bool b ∧ (b = true ↔ Others h l m n)) ∧ wx.heap[w.heap.size]? = some (.cells (hc h (.slice (some ⟨bp, off, none⟩) l.length cap)) 30 (0, 0)) ∧ wx.heap[wo.heap.size]? = some (.cells (pc p) 36 (0, 0)) ∧ Below w.heap.size w wx)
              case atStart => exact ⟨0, by omega, rfl, rfl, ⟨b3, rfl, ⟨fun e => ⟨hb3.out.1 e, fun i p q hi => absurd hi (by omega)⟩, fun c => hb3.out.2 c.head⟩⟩, hg, hq, hb⟩
              case round =>
                clear hg hq hb hsz
                obtain ⟨n, hn, rfl, rfl, ⟨b4, rfl, hb4⟩, hg, hq, hb⟩ := hrel
                have hsz := hb.size
                replace hb4 := Lib.hid hb4
                by_cases h6 : n < m
                · obtain ⟨q, hqn⟩ : ∃ q, l[n]? = some q := ⟨l[n], List.getElem?_eq_getElem (by omega)⟩
                  have hqc' : ∀ j v, (pc q)[j]? = some v → wr.cell? ⟨bp, off + n * 6 + j, none⟩ = some v := fun j v hv => hpw2.out _ hb n q hqn j v hv
                  replace hqc' := Lib.hid hqc'
                  have hQn := Lib.hid hqn
                  clear hqn
                  have hcp := cells_at hq
                  have hql := hlt hq
                  have hnn := hnew wr (.cells (pc q) 36)
                  have hcn := cells_at hnn
                  replace hnn := Lib.hid hnn
                  cases b4
                  · go_wp2_with (first | go_skip | (refine ld_cells 36 _ rfl rfl _ _ rfl (pc q) _ Try.underlying36 rfl info36 hqc'.out ?_) | (refine st_new 36 _ _ rfl _ 36 _ rfl rfl rfl (pc q) rfl info36 rfl (pc_one q) ?_))
                    go_roundg (m - (n + 1))
                    case measure => omega
                    case rel => exact ⟨n + 1, by omega, rfl, by go_num, ⟨false, rfl, ⟨nofun, fun c => by have := hb4.out.2 ⟨c.head, fun i p q hi => c.dup i p q (by omega)⟩; cases this⟩⟩, hold hg _, hold hq _, hb.alloc hsz _⟩
                  · go_wp2_with (first | go_skip | (refine ld_cells 36 _ rfl rfl _ _ rfl (pc q) _ Try.underlying36 rfl info36 hqc'.out ?_) | (refine st_new 36 _ _ rfl _ 36 _ rfl rfl rfl (pc q) rfl info36 rfl (pc_one q) ?_))
                    go_roundg (m - (n + 1))
                    case measure => omega
                    case rel =>
                      refine ⟨n + 1, by omega, rfl, by go_num, ⟨_, rfl, ⟨fun e => ⟨(hb4.out.1 (by trivial)).head, fun i p1 q1 hi hp1 hq1 => ?_⟩, fun c => ?_⟩⟩, hold hg _, hold hq _, hb.alloc hsz _⟩
                      · by_cases ei : i = n
                        · subst ei
                          rw [hQn.out] at hp1
                          rw [hPm.out] at hq1
                          cases hp1
                          cases hq1
                          simpa using e
                        · exact (hb4.out.1 (by trivial)).dup i p1 q1 (by omega) hp1 hq1
                      · have := c.dup n q p (by omega) hQn.out hPm.out
                        simpa using this
                · have hd6 : decide ((n : Int) < m) = false := by simp; omega
                  obtain hnm : n = m := by omega
                  replace hnm := Lib.hid hnm
                  go_wp2_with fail
                  go_roundg (l.length - (m + 1))
                  case measure => omega
                  case rel => exact ⟨m + 1, by omega, rfl, by go_num, ⟨b4, rfl, by rw [hb4.out, hnm.out]; exact Others.up⟩, hg, hb⟩
          · have hd5 : decide ((m : Int) < l.length) = false := by simp; omega
            have hml : m = l.length := by omega
            have fin : goodB h l = b2 := by
              have e1 := hb2.out
              rw [hml, PaysTo.good] at e1
              cases b2
              · exact goodB_no fun g => by have := e1.2 g; cases this
              · exact goodB_yes (e1.1 (by trivial))
            replace fin := Lib.hid fin
            replace hml := Lib.hid hml
            go_wp2
            go_ret
            exact ⟨by rw [fin.out]; rfl, hb⟩
end Go.Proofs.Ytggfdkkhlokmlaa
