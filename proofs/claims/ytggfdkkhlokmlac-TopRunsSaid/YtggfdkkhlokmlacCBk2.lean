/- The reference's numberText. -/
import Derived.Deep.RegionWith
import Derived.Deep.Cut
import Derived.Deep.CutBlock
import Derived.Deep.DeepCutAuto
import Derived.Laws.Bits64
import Derived.Test.YtggfdkkhlokmlacCBk1
import Derived.Test.YtggfdkkhlokmlacCMem
namespace Go.Proofs.Ytggfdkkhlokmlac
open Go.RowKit
/-- The string of bytes. -/
def str (l : List UInt8) : ByteArray := ⟨l.toArray⟩
theorem str_data (l : List UInt8) : (str l).data.toList = l := by simp [str]
theorem str_of (s : ByteArray) : str s.data.toList = s := by simp [str]
theorem str_size (l : List UInt8) : (str l).size = l.length := by simp [str, ByteArray.size]
theorem str_app (a b : List UInt8) : str a ++ str b = str (a ++ b) := by
  apply ByteArray.ext
  simp [str]
theorem str_nil : str [] = ByteArray.empty := rfl
/-- A slice of the call's own bytes, turned into a string. -/
theorem conv1 (w' : World) (b : Nat) (n : Nat) (hn : n < 256) (hc : w'.cell? ⟨b, 0, none⟩ = some (.int .u8 n)) : (convert 77 9 (.slice (some ⟨b, 0, none⟩) 1 1)).run Try.prog w' = .ok (.string (str [UInt8.ofNat n])) w' := by
  refine run_convert_bytes_back w' 77 9 5 ⟨b, 0, none⟩ 1 [UInt8.ofNat n] Try.underlying77 Try.underlying5 Try.underlying9 ?_
  intro j hj
  have : j = 0 := by simpa using hj
  subst this
  have h1 : (UInt8.ofNat n).toNat = n := ofNat_small hn
  simp only [List.getElem_cons_zero, h1]
  exact hc
theorem conv_new (w : World) (n : Nat) (hn : n < 256) : (convert 77 9 (.slice (some ⟨w.heap.size, 0, none⟩) 1 1)).run Try.prog (w.alloc (.cells #[.int .u8 n] 5)) = .ok (.string (str [UInt8.ofNat n])) (w.alloc (.cells #[.int .u8 n] 5)) :=
  conv1 _ _ n hn (cells_at (hnew w _) 0)
attribute [local go_sem] conv_new
end Go.Proofs.Ytggfdkkhlokmlac

namespace Go.Proofs.Ytggfdkkhlokmlac
open Go.RowKit
theorem conv2 (w' : World) (b : Nat) (m n : Nat) (hm : m < 256) (hn : n < 256) (hc : w'.cell? ⟨b, 0, none⟩ = some (.int .u8 m)) (hc1 : w'.cell? ⟨b, 1, none⟩ = some (.int .u8 n)) : (convert 77 9 (.slice (some ⟨b, 0, none⟩) 2 2)).run Try.prog w' = .ok (.string (str [UInt8.ofNat m, UInt8.ofNat n])) w' := by
  refine run_convert_bytes_back w' 77 9 5 ⟨b, 0, none⟩ 2 [UInt8.ofNat m, UInt8.ofNat n] Try.underlying77 Try.underlying5 Try.underlying9 ?_
  intro j hj
  have h1 : (UInt8.ofNat m).toNat = m := ofNat_small hm
  have h2 : (UInt8.ofNat n).toNat = n := ofNat_small hn
  have : j = 0 ∨ j = 1 := by simp at hj; omega
  rcases this with rfl | rfl
  · simp only [List.getElem_cons_zero, h1]; exact hc
  · simp only [List.getElem_cons_succ, List.getElem_cons_zero, h2]; exact hc1
theorem conv2_new (w : World) (m n : Nat) (hm : m < 256) (hn : n < 256) : (convert 77 9 (.slice (some ⟨w.heap.size, 0, none⟩) 2 2)).run Try.prog (w.alloc (.cells #[.int .u8 m, .int .u8 n] 5)) = .ok (.string (str [UInt8.ofNat m, UInt8.ofNat n])) (w.alloc (.cells #[.int .u8 m, .int .u8 n] 5)) :=
  conv2 _ _ m n hm hn (cells_at (hnew w _) 0) (cells_at (hnew w _) 1)
attribute [local go_sem] conv2_new
theorem bytesRow_get (s : ByteArray) (cap j : Nat) (hj : j < s.size) : (bytesRow s cap)[j]? = some (.int .u8 (s[j].toNat : Int)) := by
  have h1 : j < s.data.size := hj
  unfold bytesRow
  rw [Array.getElem?_append_left (by simpa using h1), Array.getElem?_map, Array.getElem?_eq_getElem h1]
  rfl
theorem mod251 (n : Nat) : IntKind.u8.wrap ((n % 251 : Nat) : Int) = ((n % 251 : Nat) : Int) := IntWalk.u8_in _ (by omega)
end Go.Proofs.Ytggfdkkhlokmlac

namespace Go.Proofs.Ytggfdkkhlokmlac
open Go.RowKit
attribute [local go_sem] conv1 conv_new dc_size dc_0 dc_1 dc_2 dc_3 dc_4
/-- What the two Frame functions return. -/
def framed (x : Deed) : List UInt8 × Int := if noted x then (frame x, 0) else ([], 3)
end Go.Proofs.Ytggfdkkhlokmlac

namespace Go.Proofs.Ytggfdkkhlokmlac

/-- The reference's number at the front: at most f bytes that go on, no rule of the shortest form. -/
def rdec : Nat → List UInt8 → Option (Nat × Nat)
  | _, [] => none
  | 0, c :: _ => if c.toNat < 128 then some (c.toNat, 1) else none
  | f + 1, c :: t => if c.toNat < 128 then some (c.toNat, 1) else (rdec f t).map fun x => (c.toNat - 128 + 128 * x.1, x.2 + 1)
theorem rdec_dec : ∀ (f : Nat) (b : Bool) (s : List UInt8) (r : Nat × Nat) (g : Nat), f ≤ g + 1 → dec f b s = some r → rdec g s = some r
  | 0, b, s, r, g, _, h => by cases s <;> simp [dec] at h
  | f + 1, b, [], r, g, _, h => by simp [dec] at h
  | f + 1, b, c :: t, r, g, hg, h => by
    simp only [dec] at h
    by_cases h1 : c.toNat < 128
    · rw [if_pos h1] at h
      have h2 : r = (c.toNat, 1) := by
        revert h
        split
        · intro h; simp at h
        · intro h; simpa using h.symm
      cases g <;> simp [rdec, h1, h2]
    · rw [if_neg h1] at h
      obtain ⟨y, hy, rfl⟩ := Option.map_eq_some_iff.1 h
      cases g with
      | zero =>
        have : f = 0 := by omega
        subst this
        cases t <;> simp [dec] at hy
      | succ g =>
        have ih := rdec_dec f false t y g (by omega) hy
        simp [rdec, h1, ih]
def rdec1 (s : List UInt8) : Option (Int × List UInt8) := (rdec 6 s).map fun x => (zag x.1, s.drop x.2)
theorem rdec1_dec1 {s : List UInt8} {r : Int × List UInt8} (h : dec1 s = some r) : rdec1 s = some r := by
  simp only [dec1, Option.map_eq_some_iff] at h
  obtain ⟨y, hy, rfl⟩ := h
  simp [rdec1, rdec_dec 5 true s y 6 (by omega) hy]
/-- The first k numbers, as the reference reads them. -/
def rdecs : Nat → List UInt8 → Option (List Int × List UInt8)
  | 0, s => some ([], s)
  | k + 1, s => (rdecs k s).bind fun x => (rdec1 x.2).map fun y => (x.1 ++ [y.1], y.2)
theorem rdecs_decs : ∀ (k : Nat) (s : List UInt8) (r : List Int × List UInt8), decs k s = some r → rdecs k s = some r
  | 0, s, r, h => by simpa [decs, rdecs] using h
  | k + 1, s, r, h => by
    simp only [decs, Option.bind_eq_some_iff, Option.map_eq_some_iff] at h
    obtain ⟨x, h1, y, h2, rfl⟩ := h
    simp [rdecs, rdecs_decs k s x h1, rdec1_dec1 h2]
theorem rdecs_len : ∀ (k : Nat) (s r : List UInt8) (ns : List Int), rdecs k s = some (ns, r) → ns.length = k
  | 0, s, r, ns, h => by simp [rdecs] at h; simp [h.1]
  | k + 1, s, r, ns, h => by
    simp only [rdecs, Option.bind_eq_some_iff, Option.map_eq_some_iff, Prod.mk.injEq] at h
    obtain ⟨⟨ms, q⟩, h1, ⟨n, q'⟩, _, rfl, _⟩ := h
    simp [rdecs_len k s q ms h1]
theorem rdecs_dead (s : List UInt8) (k : Nat) (h : rdecs k s = none) : ∀ j, rdecs (k + j) s = none
  | 0 => h
  | j + 1 => by
    have := rdecs_dead s k h j
    show rdecs ((k + j) + 1) s = none
    simp [rdecs, this]
/-- A frame that stands in front is read by the reference's five numbers too. -/
theorem rdecs_of_one {c : UInt8} {t : List UInt8} {x : Deed} {k : Nat} (h : oneL (c :: t) = some (x, k)) :
    ∃ ns, rdecs 5 (t.take c.toNat) = some (ns, []) ∧ deedOf ns = x ∧ noted x = true ∧ frame x = (c :: t).take (c.toNat + 3) := by
  obtain ⟨⟨hn, hf⟩, hk, hle⟩ := oneL_sound h
  obtain ⟨hb5, hb25⟩ := body_len hn
  have hfl := frame_len x
  have hcons : frame x = UInt8.ofNat (body x).length :: (body x ++ [UInt8.ofNat (ck (body x)).1, UInt8.ofNat (ck (body x)).2]) := rfl
  have hf2 := hf
  rw [hfl, List.take_succ_cons, hcons, List.cons.injEq] at hf2
  obtain ⟨hc, ht⟩ := hf2
  have hcn : c.toNat = (body x).length := by rw [← hc]; exact ofNat_small (by omega)
  have hB : t.take c.toNat = body x := by
    have h1 := congrArg (List.take (body x).length) ht
    rw [List.take_take, List.take_left'] at h1
    · rw [Nat.min_eq_left (by omega)] at h1
      rw [hcn, ← h1]
    · rfl
  have h5 := dec5_of hn []
  rw [List.append_nil, dec5_decs] at h5
  obtain ⟨⟨ns, r⟩, h6, h7⟩ := Option.map_eq_some_iff.1 h5
  simp only [Prod.mk.injEq] at h7
  obtain ⟨h8, rfl⟩ := h7
  refine ⟨ns, by rw [hB]; exact rdecs_decs 5 _ _ h6, h8, hn, ?_⟩
  rw [hcn, ← hfl]; exact hf
theorem one_of_rdecs {c : UInt8} {t : List UInt8} (hl : c.toNat + 2 ≤ t.length) {x : Deed} (hn : noted x = true) (hf : frame x = (c :: t).take (c.toNat + 3)) : oneL (c :: t) = some (x, c.toNat + 3) := by
  have h1 : (frame x).length = c.toNat + 3 := by rw [hf, List.length_take]; simp; omega
  have h2 := oneL_of (s := c :: t) (x := x) ⟨hn, by rw [h1]; exact hf⟩
  rw [h1] at h2
  exact h2
end Go.Proofs.Ytggfdkkhlokmlac

namespace Go.Proofs.Ytggfdkkhlokmlac
open Go.RowKit
attribute [local go_sem] dc_size
theorem arr5_any (ns : List Int) (h : ns.length ≤ 5) (k : Nat) (hk : k < 5) : (arr5 ns)[k]? = some (.int .i64 (ns.getD k 0)) := by
  simp only [arr5, List.getElem?_toArray]
  by_cases h1 : k < ns.length
  · rw [List.getElem?_append_left (by simpa using h1)]
    simp [List.getD, List.getElem?_eq_getElem h1]
  · rw [List.getElem?_append_right (by simp; omega), List.getElem?_replicate, if_pos (by simp; omega)]
    simp [List.getD, List.getElem?_eq_none (by omega : ns.length ≤ k)]
/-- What the five numbers came to. -/
def FiveOf (B : List UInt8) (ns : List Int) : Prop := (ns.length = 5 ∧ ∃ r, rdecs 5 B = some (ns, r)) ∨ (ns.length < 5 ∧ rdecs 5 B = none)
/-- How the reference's reading of one number stands behind j bytes that go on. -/
def NumAt (D0 D : List UInt8) (j U sc : Nat) : Prop := sc = 128 ^ j ∧ U < sc ∧ rdec 6 D0 = (rdec (6 - j) D).map fun x => (U + sc * x.1, x.2 + j)
theorem numAt_start (D : List UInt8) : NumAt D D 0 0 1 := by
  refine ⟨rfl, by omega, ?_⟩
  cases rdec 6 D <;> simp
theorem numAt_nil {D0 : List UInt8} {j U sc : Nat} (h : NumAt D0 [] j U sc) : rdec 6 D0 = none := by
  rw [h.2.2]; cases 6 - j <;> rfl
theorem numAt_small {D0 D : List UInt8} {c : UInt8} {j U sc : Nat} (h : NumAt D0 (c :: D) j U sc) (hc : c.toNat < 128) : rdec 6 D0 = some (U + sc * c.toNat, 1 + j) := by
  rw [h.2.2]; cases 6 - j <;> simp [rdec, hc]
theorem numAt_full {D0 D : List UInt8} {c : UInt8} {U sc : Nat} (h : NumAt D0 (c :: D) 6 U sc) (hc : ¬ c.toNat < 128) : rdec 6 D0 = none := by
  rw [h.2.2]; simp [rdec, hc]
theorem numAt_step {D0 D : List UInt8} {c : UInt8} {j U sc : Nat} (h : NumAt D0 (c :: D) j U sc) (hc : ¬ c.toNat < 128) (hj : j < 6) : NumAt D0 D (j + 1) (U + (c.toNat - 128) * sc) (sc * 128) := by
  obtain ⟨h1, h2, h3⟩ := h
  have hlt := c.toNat_lt
  refine ⟨by rw [h1]; rfl, ?_, ?_⟩
  · have : (c.toNat - 128) * sc ≤ 127 * sc := Nat.mul_le_mul_right _ (by omega)
    omega
  · rw [h3, show 6 - j = (6 - (j + 1)) + 1 from by omega]
    simp only [rdec, if_neg hc, Option.map_map]
    congr 1
    funext x
    simp only [Function.comp, Prod.mk.injEq]
    refine ⟨?_, by omega⟩
    rw [Nat.mul_add, Nat.mul_comm sc (c.toNat - 128), Nat.mul_assoc, Nat.add_assoc]
theorem sc_le {j sc : Nat} (h : sc = 128 ^ j) (hj : j < 6) : 1 ≤ sc ∧ sc ≤ 34359738368 := by
  subst h
  rcases (by omega : j = 0 ∨ j = 1 ∨ j = 2 ∨ j = 3 ∨ j = 4 ∨ j = 5) with rfl | rfl | rfl | rfl | rfl | rfl <;> decide
theorem sc_6 {j sc : Nat} (h : sc = 128 ^ j) (hj : j = 6) : sc = 4398046511104 := by
  subst h; subst hj; rfl
theorem sc_any {j sc : Nat} (h : sc = 128 ^ j) (hj : j ≤ 6) : 1 ≤ sc ∧ sc ≤ 4398046511104 := by
  by_cases h6 : j < 6
  · have := sc_le h h6; omega
  · have := sc_6 h (by omega); omega
theorem rdecs_step {B q : List UInt8} {ns : List Int} {v k : Nat} (h : rdecs ns.length B = some (ns, q)) (h1 : rdec 6 q = some (v, k)) : rdecs (ns ++ [zag v]).length B = some (ns ++ [zag v], q.drop k) := by
  rw [List.length_append]
  show rdecs (ns.length + 1) B = _
  simp [rdecs, h, rdec1, h1]
theorem rdecs_stop {B q : List UInt8} {ns : List Int} (h : rdecs ns.length B = some (ns, q)) (h1 : rdec 6 q = none) (hl : ns.length < 5) : FiveOf B ns := by
  refine .inr ⟨hl, ?_⟩
  have := rdecs_dead B (ns.length + 1) (by simp [rdecs, h, rdec1, h1]) (5 - (ns.length + 1))
  rw [show ns.length + 1 + (5 - (ns.length + 1)) = 5 from by omega] at this
  exact this
theorem prod_int {m sc X : Nat} (h : 128 ≤ m) (hX : (m - 128) * sc = X) : ((m : Int) - 128) * (sc : Int) = (X : Int) := by
  rw [← hX, Int.natCast_mul]; congr 1; omega
theorem oneL_cut {c : UInt8} {t : List UInt8} (h : t.length < c.toNat + 2) : oneL (c :: t) = none := by
  unfold oneL; simp only [if_pos h]
theorem bytes_eq {a b : ByteArray} (h : a.toList = b.toList) : a = b := by
  rw [ByteArray.toList_eq, ByteArray.toList_eq] at h
  cases a; cases b
  simp only [ByteArray.mk.injEq]
  exact Array.toList_inj.1 h
/-- What the inner loop leaves: the bytes' end, a byte that goes on too far, or the last byte. -/
def NumEnd (sd : ByteArray) (e q0 q : Nat) (D0 : List UInt8) (U sc : Nat) : Prop :=
  (q = e ∧ rdec 6 D0 = none) ∨ (∃ h : q < sd.size, q < e ∧ ¬ (sd[q]'h).toNat < 128 ∧ rdec 6 D0 = none) ∨ (∃ h : q < sd.size, q < e ∧ (sd[q]'h).toNat < 128 ∧ rdec 6 D0 = some (U + sc * (sd[q]'h).toNat, 1 + (q - q0)))
end Go.Proofs.Ytggfdkkhlokmlac

namespace Go.Proofs.Ytggfdkkhlokmlac
open Go.RowKit
attribute [local go_sem] dc_size dc_0 dc_1 dc_2 dc_3 dc_4
/-- Bytes in a row of the call's own. -/
def bcells (l : List UInt8) : List Value := l.map fun c => .int .u8 (c.toNat : Int)
def OwnBytes (w : World) (base : Nat) (v : Value) (l : List UInt8) : Prop := w.ownsRow base 5 1 v l.length (bcells l)
theorem info5z : ∃ (i : TypeInfo) (z : Value), Try.prog.info? 5 = some i ∧ i.zero = some z ∧ i.size = 1 ∧ i.bytes = 1 ∧ z.cells.size = 1 := by
  have h : (Try.prog.info? 5).map (fun i => (i.zero.map (·.cells.size), i.size, i.bytes)) = some (some 1, 1, 1) := by kernel_rfl
  cases hq : Try.prog.info? 5 with
  | none => simp [hq] at h
  | some i =>
    simp only [hq, Option.map_some, Option.some.injEq, Prod.mk.injEq] at h
    obtain ⟨h1, h2, h3⟩ := h
    cases hz : i.zero with
    | none => simp [hz] at h1
    | some z => exact ⟨i, z, rfl, hz, h2, h3, by simpa [hz] using h1⟩
theorem OwnBytes.alloc {w : World} {base : Nat} {v : Value} {l : List UInt8} (h : OwnBytes w base v l) (o : Obj) : OwnBytes (w.alloc o) base v l := World.ownsRow.alloc h o
theorem OwnBytes.some {w : World} {base : Nat} {v : Value} {l : List UInt8} (h : OwnBytes w base v l) (hl : 5 ≤ l.length) : ∃ g cap, v = .slice (some ⟨g, 0, none⟩) l.length cap := by
  rcases h.2 with ⟨_, h0⟩ | ⟨g, cap, cur, rfl, _⟩
  · omega
  · exact ⟨g, cap, rfl⟩
/-- A row of the call's own bytes, turned into a string. -/
theorem convOwn {w : World} {base : Nat} {v : Value} {l : List UInt8} (h : OwnBytes w base v l) (hl : 5 ≤ l.length) : (convert 77 9 v).run Try.prog w = .ok (.string (str l)) w := by
  rcases h.2 with ⟨_, h0⟩ | ⟨g, cap, cur, rfl, hb, hg, hn, hc, hsz, htake⟩
  · omega
  · refine run_convert_bytes_back w 77 9 5 ⟨g, 0, none⟩ cap l Try.underlying77 Try.underlying5 Try.underlying9 ?_
    intro j hj
    have hadd : (⟨g, 0, none⟩ : Addr).add j = ⟨g, 0 + j, none⟩ := by unfold Addr.add; split <;> simp_all
    rw [hadd, Nat.zero_add, cells_at hg]
    have h1 : (bcells l)[j]? = some (.int .u8 (l[j].toNat : Int)) := by simp [bcells, hj]
    rw [← htake, List.getElem?_take_of_lt (by omega)] at h1
    simpa using h1
/-- The first k numbers of an act, as bytes. -/
def encTo (x : Deed) : Nat → List UInt8
  | 0 => []
  | k + 1 => encTo x k ++ enc (zig (nth x k))
theorem encTo_5 (x : Deed) : encTo x 5 = body x := by simp [encTo, body, nth]
theorem encTo_len {x : Deed} (hn : noted x = true) : ∀ k, k ≤ 5 → (encTo x k).length ≤ 5 * k
  | 0, _ => by simp [encTo]
  | k + 1, h => by
    have h1 := encTo_len hn k (by omega)
    have h2 := enc_zig_len ((noted_iff x).1 hn k (by omega))
    simp only [encTo, List.length_append]; omega
theorem xor_full (a : Nat) (ha : a < 18446744073709551616) : 18446744073709551615 ^^^ a = 18446744073709551615 - a := by
  have h1 : (~~~(BitVec.ofNat 64 a)).toNat = 2 ^ 64 - 1 - (BitVec.ofNat 64 a).toNat := BitVec.toNat_not
  have h2 : ~~~(BitVec.ofNat 64 a) = BitVec.allOnes 64 ^^^ BitVec.ofNat 64 a := BitVec.not_def
  rw [h2, BitVec.toNat_xor, BitVec.toNat_allOnes, BitVec.toNat_ofNat, Nat.mod_eq_of_lt ha] at h1
  exact h1
theorem zig_neg {n : Int} (h0 : n < 0) (h1 : -1073741824 ≤ n) : bits .xor .u64 IntKind.u64.max (IntKind.u64.wrap (IntKind.u64.wrap n * 2)) = ((zig n : Nat) : Int) := by
  have e1 : IntKind.u64.wrap n = n + 18446744073709551616 := by simp [IntKind.wrap, IntKind.bits, IntKind.signed]; omega
  have e2 : IntKind.u64.wrap (IntKind.u64.wrap n * 2) = ((18446744073709551616 - (zig n + 1) : Nat) : Int) := by
    rw [e1]
    simp only [zig, if_neg (by omega : ¬ 0 ≤ n)]
    simp [IntKind.wrap, IntKind.bits, IntKind.signed]; omega
  have e3 : IntKind.u64.max = ((18446744073709551615 : Nat) : Int) := rfl
  have hz : zig n ≤ 2147483648 := by simp only [zig, if_neg (by omega : ¬ 0 ≤ n)]; omega
  rw [e2, e3, bits_xor_u64_nat _ _ (by omega) (by omega), xor_full _ (by omega)]
  omega
theorem addr_zero0 (b : Nat) : (⟨b, 0, none⟩ : Addr).add 0 = ⟨b, 0, none⟩ := by simp [Addr.add]
theorem or128 (v : Nat) : bits .or .u8 ((v : Int) % 256) 128 = (((UInt8.ofNat (128 + v % 128)).toNat : Nat) : Int) := by
  rw [ofNat_small (by omega)]
  have h : ∀ a : Nat, a < 256 → bits .or .u8 (a : Int) 128 = ((128 + a % 128 : Nat) : Int) := by decide +kernel
  have e : ((v : Int) % 256) = ((v % 256 : Nat) : Int) := by omega
  rw [e, h _ (Nat.mod_lt _ (by omega))]
  omega
theorem zig_wrap {n : Int} (h0 : 0 ≤ n) (h1 : n ≤ 1073741824) : IntKind.u64.wrap (IntKind.u64.wrap n * 2) = n * 2 := by
  simp [IntKind.wrap, IntKind.bits, IntKind.signed]; omega
theorem zig_pos {n : Int} (h0 : 0 ≤ n) : n * 2 = ((zig n : Nat) : Int) := by
  simp only [zig, if_pos h0]; omega
set_option maxRecDepth 100000 in
set_option maxHeartbeats 2000000 in
theorem frame_no (x : Deed) (w : World) (hn : noted x = false) :
    Calls Try.prog 25 #[.agg (dc x)] w fun e w' => e = .returned (.tuple #[.string (str (framed x).1), .int .i64 (framed x).2]) ∧ Below w.heap.size w w' := by
  have hN : ∀ w, Calls Try.prog 33 #[.agg (dc x)] w fun e w' => e = .returned (.bool false) ∧ Below w.heap.size w w' := by
    rw [← hn]; exact fun w => goodAct_any x w
  have hf : framed x = ([], 3) := by simp [framed, hn]
  replace hN := Lib.hid hN
  replace hf := Lib.hid hf
  go_enter Try.func25, Try.ntmps25
  go_wp2_with (first | go_skip | (go_at_call 33; refine (hN.out _).mono ?_; rintro e w1 ⟨rfl, hb1⟩) | (refine ld_row 28 _ rfl rfl _ rfl _ _ _ _ (hnew _ _) Try.underlying28 rfl info44 ?_))
  go_ret2
  exact ⟨by rw [hf.out]; rfl, ((Below.refl w.heap.size w).alloc (Nat.le_refl _) _).trans (hb1.mono (by rw [alloc_size]; omega))⟩
set_option maxRecDepth 100000 in
set_option maxHeartbeats 4000000 in
theorem frame_yes (x : Deed) (w : World) (hn : noted x = true) :
    Calls Try.prog 25 #[.agg (dc x)] w fun e w' => e = .returned (.tuple #[.string (str (framed x).1), .int .i64 (framed x).2]) ∧ Below w.heap.size w w' := by
  have hN : ∀ w, Calls Try.prog 33 #[.agg (dc x)] w fun e w' => e = .returned (.bool true) ∧ Below w.heap.size w w' := by
    rw [← hn]; exact fun w => goodAct_any x w
  have hf : framed x = (frame x, 0) := by simp [framed, hn]
  have hnk := (noted_iff x).1 hn
  obtain ⟨i0, z, hi, hz0, hz1, hz2, hz3⟩ := info5z
  replace hN := Lib.hid hN
  replace hf := Lib.hid hf
  replace hnk := Lib.hid hnk
  go_enter Try.func25, Try.ntmps25
  go_wp2_with (first | go_skip | (go_at_call 33; refine (hN.out _).mono ?_; rintro e w1 ⟨rfl, hb1⟩; have hx0 := cells_at (hkeep hb1 (hnew w (.cells (dc x) 28)))) | (refine ld_row 28 _ rfl rfl _ rfl _ _ _ _ (hnew _ _) Try.underlying28 rfl info44 ?_))
  have hB : Below w.heap.size w w1 := ((Below.refl w.heap.size w).alloc (Nat.le_refl _) _).trans (hb1.mono (by rw [alloc_size]; omega))
  clear hb1 hx0
  have hix := Lib.hid (index5 x)
  go_loopg [4, 6, 7, 24] 5 (fun g b _ _ i wr => ∃ k : Nat, k ≤ 5 ∧ g = 5 - k ∧ i = .int .i64 k ∧ OwnBytes wr w.heap.size b (encTo x k) ∧ Below w.heap.size w wr)
  case atStart => exact ⟨0, by omega, rfl, rfl, ⟨rfl, .inl ⟨rfl, rfl⟩⟩, hB⟩
  case round =>
    obtain ⟨k, hk, rfl, rfl, hown, hbl⟩ := hrel
    obtain ⟨wo, rfl⟩ : ∃ wo : World, wo = wr := ⟨_, rfl⟩
    by_cases hk5 : k < 5
    · have hk5d : decide ((k : Int) < 5) = true := decide_eq_true (by omega)
      have hi5 := fun w => hix.out k hk5 w
      have hnn := of_decide_eq_true (hnk.out k hk5)
      have hlen := encTo_len hn k (by omega)
      have hsz := enc_zig_len (hnk.out k hk5)
      obtain ⟨n, hN1⟩ : ∃ n, nth x k = n := ⟨_, rfl⟩
      rw [hN1] at hi5 hnn hsz
      replace hN1 := Lib.hid hN1
      replace hsz := Lib.hid hsz
      replace hlen := Lib.hid hlen
      obtain ⟨ui, hui⟩ : ∃ ui : Int, ui = ((zig n : Nat) : Int) := ⟨_, rfl⟩
      have hpos : 0 ≤ n → IntKind.u64.wrap (IntKind.u64.wrap n * 2) = ui := fun h0 => by rw [hui, ← zig_pos h0]; exact zig_wrap h0 (by omega)
      have hneg : ¬ 0 ≤ n → bits .xor .u64 IntKind.u64.max (IntKind.u64.wrap (IntKind.u64.wrap n * 2)) = ui := fun h0 => by rw [hui]; exact zig_neg (by omega) (by omega)
      have hub := zig_lt (n := n) (decide_eq_true hnn)
      have huib : 0 ≤ ui ∧ ui ≤ 2147483648 := by omega
      replace hub := Lib.hid hub
      replace hui := Lib.hid hui
      replace hpos := Lib.hid hpos
      replace hneg := Lib.hid hneg
      go_upto_if 31 with fail
      go_cut [7] (fun s7 wx => s7 = .int .u64 ui ∧ wo = wx)
      case first =>
        by_cases h0 : 0 ≤ n
        · have h0d : decide (n < 0) = false := decide_eq_false (by omega)
          go_wp2_with fail
          go_meet
          case rel => exact ⟨by rw [← hpos.out h0], rfl⟩
        · have h0d : decide (n < 0) = true := decide_eq_true (by omega)
          go_wp2_with fail
          go_meet
          case rel => exact ⟨by rw [← hneg.out h0], rfl⟩
      case rest =>
        obtain ⟨rfl, rfl⟩ := hcut
        go_wp2_with fail
        go_loopg [4, 7] (zig n) (fun g b u wr => ∃ (dn : List UInt8) (v : Nat) (vi : Int), vi = v ∧ v = g ∧ u = .int .u64 vi ∧ v ≤ zig n ∧ enc (zig n) = dn ++ enc v ∧ OwnBytes wr w.heap.size b (encTo x k ++ dn) ∧ Below w.heap.size w wr)
        case atStart => exact ⟨[], zig n, ui, hui.out, rfl, rfl, Nat.le_refl _, rfl, by rw [List.append_nil]; exact hown, hbl⟩
        case round =>
          obtain ⟨dn, v, vi, hvi, rfl, rfl, hvle, henc, hown2, hbl2⟩ := hrel
          obtain ⟨wi, rfl⟩ : ∃ wi : World, wi = wr := ⟨_, rfl⟩
          have hvb : 0 ≤ vi ∧ vi ≤ 2147483648 := by have := hub.out; omega
          have hdl : (encTo x k ++ dn).length + 1 ≤ 25 := by
            have h1 := hsz.out
            have h2 := hlen.out
            have h3 := enc_len_pos v
            rw [henc] at h1
            simp only [List.length_append] at h1 ⊢
            omega
          by_cases hbig : v < 128
          · have hgd : decide (128 ≤ vi) = false := decide_eq_false (by omega)
            have hvb2 : vi < 128 := by omega
            have hbi : vi = (((UInt8.ofNat v).toNat : Nat) : Int) := by rw [ofNat_small (by omega), hvi]
            have henc2 : enc (zig n) = dn ++ [UInt8.ofNat v] := by rw [henc, enc_small hbig]
            replace hbi := Lib.hid hbi
            replace hvi := Lib.hid hvi
            replace henc := Lib.hid henc
            replace henc2 := Lib.hid henc2
            replace hvle := Lib.hid hvle
            replace hdl := Lib.hid hdl
            have hal : ∀ o : Obj, (wi.alloc o).ownsRow w.heap.size 5 1 u4 (encTo x k ++ dn).length (bcells (encTo x k ++ dn)) := fun o => World.ownsRow.alloc hown2 o
            replace hal := Lib.hid hal
            replace hown2 := Lib.hid hown2
            go_wp2_with (first | go_skip | (at_builtin; refine wpList_append_own _ rfl _ _ 77 rfl w.heap.size 5 i0 z 1 1 Try.underlying77 hi hz0 hz1 hz2 hz3 (by decide) u4 (encTo x k ++ dn).length (bcells (encTo x k ++ dn)) rfl (hal.out _) ⟨wi.heap.size, 0, none⟩ 1 1 [.int .u8 vi] rfl rfl ?d1 ?d2 ?d3 ?d4 ?d5 ?_))
            case d1 =>
              intro j u hu
              obtain rfl : j = 0 := by have := (List.getElem?_eq_some_iff.1 hu).1; simpa using this
              rw [addr_zero0]
              exact (cells_at (hnew wi (.cells #[.int .u8 vi] 5)) 0).trans (by simpa using hu)
            case d2 => intro u hu; obtain rfl := List.mem_singleton.1 hu; rfl
            case d3 => have := hdl.out; simp only [maxLen]; omega
            case d4 => have := hdl.out; omega
            case d5 => rw [alloc_size]; have := hbl2.size; omega
            intro v' w3 hown3 hgr _
            have hO3 : OwnBytes w3 w.heap.size v' (encTo x (k + 1)) := by
              have h0 : encTo x (k + 1) = encTo x k ++ (dn ++ [UInt8.ofNat v]) := by rw [← henc2.out, ← hN1.out]; rfl
              have h1 : bcells (encTo x k ++ (dn ++ [UInt8.ofNat v])) = bcells (encTo x k ++ dn) ++ [.int .u8 vi] := by rw [hbi.out]; simp [bcells]
              have h2 : (encTo x k ++ (dn ++ [UInt8.ofNat v])).length = (encTo x k).length + dn.length + 1 := by simp [Nat.add_assoc]
              rw [h0]
              unfold OwnBytes
              rw [h1, h2]
              exact hown3
            have hbl3 : Below w.heap.size w w3 := by
              have h4 := hbl2.alloc hbl2.size (.cells #[.int .u8 vi] 5)
              refine h4.grown hgr h4.size fun g hg => ?_
              rcases hown2.out.2 with ⟨h5, _⟩ | ⟨g', cap, cur, h5, hb', _⟩
              · rw [h5] at hg; simp [Value.ownBlock] at hg
              · rw [h5] at hg; simp [Value.ownBlock] at hg; omega
            replace hown3 := Lib.hid hown3
            clear hgr
            go_wp2_with fail
            go_roundg (5 - (k + 1))
            case measure => omega
            case rel => exact ⟨k + 1, by omega, rfl, by go_num, hO3, hbl3⟩
          · have hgd : decide (128 ≤ vi) = true := decide_eq_true (by omega)
            obtain ⟨bi, hbi⟩ : ∃ bi : Int, bi = (((UInt8.ofNat (128 + v % 128)).toNat : Nat) : Int) := ⟨_, rfl⟩
            have hor : bits .or .u8 (vi % 256) 128 = bi := by rw [hbi, hvi]; exact or128 v
            replace hbi := Lib.hid hbi
            have henc2 : enc (zig n) = (dn ++ [UInt8.ofNat (128 + v % 128)]) ++ enc (v / 128) := by rw [henc, enc_big hbig]; simp
            replace hvi := Lib.hid hvi
            replace henc := Lib.hid henc
            replace henc2 := Lib.hid henc2
            replace hvle := Lib.hid hvle
            replace hdl := Lib.hid hdl
            obtain ⟨ub, hub4⟩ : ∃ ub, ub = u4 := ⟨_, rfl⟩
            have hal : ∀ o : Obj, (wi.alloc o).ownsRow w.heap.size 5 1 u4 (encTo x k ++ dn).length (bcells (encTo x k ++ dn)) := fun o => World.ownsRow.alloc hown2 o
            replace hub4 := Lib.hid hub4
            replace hal := Lib.hid hal
            replace hown2 := Lib.hid hown2
            go_upto_region 12 with (first | go_skip | (at_builtin; go_loud (refine wpList_append_own _ rfl _ _ 77 rfl w.heap.size 5 i0 z 1 1 Try.underlying77 hi hz0 hz1 hz2 hz3 (by decide) u4 (encTo x k ++ dn).length (bcells (encTo x k ++ dn)) rfl (hal.out _) ⟨wi.heap.size, 0, none⟩ 1 1 [.int .u8 bi] rfl rfl ?c1 ?c2 ?c3 ?c4 ?c5 ?_)))
            case c1 =>
              intro j u hu
              obtain rfl : j = 0 := by have := (List.getElem?_eq_some_iff.1 hu).1; simpa using this
              rw [addr_zero0]
              exact (cells_at (hnew wi (.cells #[.int .u8 bi] 5)) 0).trans (by simpa using hu)
            case c2 => intro u hu; obtain rfl := List.mem_singleton.1 hu; rfl
            case c3 => have := hdl.out; simp only [maxLen]; omega
            case c4 => have := hdl.out; omega
            case c5 => rw [alloc_size]; have := hbl2.size; omega
            intro v' w3 hown3 hgr _
            have hO3 : OwnBytes w3 w.heap.size v' (encTo x k ++ (dn ++ [UInt8.ofNat (128 + v % 128)])) := by
              have h1 : bcells (encTo x k ++ (dn ++ [UInt8.ofNat (128 + v % 128)])) = bcells (encTo x k ++ dn) ++ [.int .u8 bi] := by rw [hbi.out]; simp [bcells]
              have h2 : (encTo x k ++ (dn ++ [UInt8.ofNat (128 + v % 128)])).length = (encTo x k).length + dn.length + 1 := by simp [Nat.add_assoc]
              unfold OwnBytes
              rw [h1, h2]
              exact hown3
            have hbl3 : Below w.heap.size w w3 := by
              have h4 := hbl2.alloc hbl2.size (.cells #[.int .u8 bi] 5)
              refine h4.grown hgr h4.size fun g hg => ?_
              rcases hown2.out.2 with ⟨h5, _⟩ | ⟨g', cap, cur, h5, hb', _⟩
              · rw [h5] at hg; simp [Value.ownBlock] at hg
              · rw [h5] at hg; simp [Value.ownBlock] at hg; omega
            replace hown3 := Lib.hid hown3
            clear hgr
            go_wp2_with fail
            go_roundg (v / 128)
            case measure => omega
            case rel => exact ⟨dn ++ [UInt8.ofNat (128 + v % 128)], v / 128, vi / 128, by rw [hvi.out]; omega, rfl, rfl, by have := hvle.out; omega, henc2.out, hO3, hbl3⟩
    · have hk5d : decide ((k : Int) < 5) = false := decide_eq_false (by omega)
      obtain rfl : k = 5 := by omega
      rw [encTo_5] at hown
      have hbl5 := body_len hn
      have hcv1 := convOwn hown hbl5.1
      obtain ⟨n, hnl⟩ : ∃ n, (body x).length = n := ⟨_, rfl⟩
      have hA := convOwn (OwnBytes.alloc hown (.cells #[.int .u8 n] 5)) hbl5.1
      obtain ⟨g, cap, hv⟩ := hown.some hbl5.1
      rw [hnl] at hv hbl5
      subst hv
      have hS := fun w => sum8_any (str (body x)) w (by rw [str_size]; omega)
      rw [str_data] at hS
      have hbs : (str (body x)).size = n := by rw [str_size]; exact hnl
      have hck := ck_lt (body x)
      obtain ⟨X, hX⟩ : ∃ X, (ck (body x)).1 = X := ⟨_, rfl⟩
      obtain ⟨Y, hY⟩ : ∃ Y, (ck (body x)).2 = Y := ⟨_, rfl⟩
      rw [hX, hY] at hS hck
      obtain ⟨hx251, hy251⟩ := hck
      have hcv2 := conv_new wo n (by omega)
      have hcv4 := conv2_new (wo.alloc (.cells #[.int .u8 n] 5)) X Y (by omega) (by omega)
      rw [alloc_size] at hcv4
      have hfr : frame x = UInt8.ofNat n :: (body x ++ [UInt8.ofNat X, UInt8.ofNat Y]) := by rw [← hnl, ← hX, ← hY]; rfl
      have c1 : (str [UInt8.ofNat n]).size = 1 := rfl
      have c2 : str [UInt8.ofNat n] ++ str (body x) = str (UInt8.ofNat n :: body x) := str_app _ _
      have c3 : (str (UInt8.ofNat n :: body x)).size ≤ 26 := by rw [str_size]; simp only [List.length_cons]; omega
      have c4 : (str [UInt8.ofNat X, UInt8.ofNat Y]).size = 2 := rfl
      have c5 : str (UInt8.ofNat n :: body x) ++ str [UInt8.ofNat X, UInt8.ofNat Y] = str (frame x) := by rw [str_app, hfr]; rfl
      replace hfr := Lib.hid hfr
      replace hS := Lib.hid hS
      replace hX := Lib.hid hX
      replace hY := Lib.hid hY
      replace hnl := Lib.hid hnl
      go_wp2_with (first | go_skip | (go_at_call 34; refine (hS.out _).mono ?_; rintro e w2 ⟨rfl, rfl⟩))
      go_ret2
      exact ⟨by rw [hf.out]; rfl, (hbl.alloc hbl.size _).alloc (hbl.alloc hbl.size _).size _⟩
theorem frame_any (x : Deed) (w : World) :
    Calls Try.prog 25 #[.agg (dc x)] w fun e w' => e = .returned (.tuple #[.string (str (framed x).1), .int .i64 (framed x).2]) ∧ Below w.heap.size w w' := by
  cases hn : noted x
  · exact frame_no x w hn
  · exact frame_yes x w hn
end Go.Proofs.Ytggfdkkhlokmlac

