/- book.one: one frame at the front of a string. -/
import Derived.Test.YtggfdkkhlokmlaaBook3
import Derived.WalkSpells
import Derived.Deep.Cut
namespace Go.Proofs.Ytggfdkkhlokmlaa
open Go.RowKit

def d0 : Deed := ⟨0, 0, 0, 0, 0⟩
/-- What 'one' returns. -/
def oneF (L : List UInt8) : Deed × Int := match oneL L with | some (x, k) => (x, (k : Int)) | none => (d0, 0)
theorem oneF_none {L : List UInt8} (h : oneL L = none) : oneF L = (d0, 0) := by simp [oneF, h]
theorem oneF_some {L : List UInt8} {x : Deed} {k : Nat} (h : oneL L = some (x, k)) : oneF L = (x, (k : Int)) := by simp [oneF, h]
theorem results_act {fn : Func} {p u : Tmp} (hf : fn.results = #[.cell p 44, .tmp u]) (tmps : Array Value) (w : World) (g : Nat) (x : Deed)
    (hp : tmps.getD p undef = .pointer (some ⟨g, 0, none⟩)) (hg : w.heap[g]? = some (.cells (dc x) 44 (0, 0))) : (results fn tmps).run Try.prog w = .ok (.tuple #[.agg (dc x), tmps.getD u undef]) w := by
  rw [results_cell_tmp hf, hp]
  have h1 : (asAddr (.pointer (some ⟨g, 0, none⟩))).run Try.prog w = .ok ⟨g, 0, none⟩ w := rfl
  rw [h1, Result.andThen_ok, run_loadVar_row w g _ _ _ (0, 0) _ hg Try.underlying44 rfl info44]
  rfl

/-- The first k numbers. -/
def decs : Nat → List UInt8 → Option (List Int × List UInt8)
  | 0, s => some ([], s)
  | k + 1, s => (decs k s).bind fun x => (dec1 x.2).map fun y => (x.1 ++ [y.1], y.2)
theorem decs_len : ∀ (k : Nat) (s r : List UInt8) (ns : List Int), decs k s = some (ns, r) → ns.length = k
  | 0, s, r, ns, h => by simp [decs] at h; simp [h.1]
  | k + 1, s, r, ns, h => by
    simp only [decs, Option.bind_eq_some_iff, Option.map_eq_some_iff, Prod.mk.injEq] at h
    obtain ⟨⟨ms, q⟩, h1, ⟨n, q'⟩, _, rfl, _⟩ := h
    simp [decs_len k s q ms h1]
/-- The act of five numbers. -/
def deedOf (ns : List Int) : Deed := ⟨ns.getD 0 0, ns.getD 1 0, ns.getD 2 0, ns.getD 3 0, ns.getD 4 0⟩
theorem dec5_decs (s : List UInt8) : dec5 s = (decs 5 s).map fun x => (deedOf x.1, x.2) := by
  simp only [dec5, decs, Option.bind_some]
  cases h1 : dec1 s with
  | none => simp
  | some x1 =>
    simp only [Option.bind_some, Option.map_some]
    cases h2 : dec1 x1.2 with
    | none => simp
    | some x2 =>
      simp only [Option.bind_some, Option.map_some]
      cases h3 : dec1 x2.2 with
      | none => simp
      | some x3 =>
        simp only [Option.bind_some, Option.map_some]
        cases h4 : dec1 x3.2 with
        | none => simp
        | some x4 =>
          simp only [Option.bind_some, Option.map_some]
          cases h5 : dec1 x4.2 with
          | none => simp
          | some x5 => simp [deedOf]
theorem decs_dead (s : List UInt8) (k : Nat) (h : decs k s = none) : ∀ j, decs (k + j) s = none
  | 0 => h
  | j + 1 => by
    have := decs_dead s k h j
    show decs ((k + j) + 1) s = none
    simp [decs, this]
theorem numF_dec1 (r : List UInt8) : (dec1 r = none ∧ numF r = (0, 0)) ∨ ∃ (n : Int) (k : Nat), dec1 r = some (n, r.drop k) ∧ numF r = (n, (k : Int)) ∧ 0 < k ∧ k ≤ r.length := by
  cases h : dec 5 true r with
  | none => exact .inl ⟨by simp [dec1, h], by simp [numF, h]⟩
  | some x =>
    obtain ⟨u, k⟩ := x
    have := dec_enc 5 true r u k h
    exact .inr ⟨zag u, k, by simp [dec1, h], by simp [numF, h], this.2.2.2.2, this.2.2.2.1⟩

/-- An array of five ints of which the first are written. -/
def arr5 (ns : List Int) : Array Value := (ns.map (Value.int .i64) ++ List.replicate (5 - ns.length) (Value.int .i64 0)).toArray
theorem arr5_set (ns : List Int) (n : Int) (h : ns.length < 5) : (arr5 ns).setIfInBounds ns.length (.int .i64 n) = arr5 (ns ++ [n]) := by
  obtain ⟨m, hm⟩ : ∃ m, 5 - ns.length = m + 1 := ⟨5 - ns.length - 1, by omega⟩
  have hm2 : 5 - (ns ++ [n]).length = m := by simp; omega
  simp only [arr5, hm, hm2, List.replicate_succ]
  rw [List.setIfInBounds_toArray]
  congr 1
  rw [List.set_append_right _ _ (by simp)]
  simp
theorem arr5_get (ns : List Int) (h : ns.length = 5) (k : Nat) (hk : k < 5) : (arr5 ns)[k]? = some (.int .i64 (ns.getD k 0)) := by
  have : k < ns.length := by omega
  simp [arr5, h, List.getD, List.getElem?_eq_getElem this]
theorem dc_deed (ns : List Int) : (#[.int .i64 (ns.getD 0 0), .int .i64 (ns.getD 1 0), .int .i64 (ns.getD 2 0), .int .i64 (ns.getD 3 0), .int .i64 (ns.getD 4 0)] : Array Value) = dc (deedOf ns) := rfl

/-- oneL of a string that is long enough, in the walk's words. -/
theorem oneL_cons (c : UInt8) (t : List UInt8) (hlen : ¬ t.length < c.toNat + 2) : oneL (c :: t) =
    if t[c.toNat]? = some (UInt8.ofNat (ck (t.take c.toNat)).1) ∧ t[c.toNat + 1]? = some (UInt8.ofNat (ck (t.take c.toNat)).2) then
      (match dec5 (t.take c.toNat) with | some (x, []) => if noted x then some (x, c.toNat + 3) else none | _ => none) else none := by
  unfold oneL
  simp only
  rw [if_neg hlen]
  have e : (t.drop c.toNat).take 2 = [t[c.toNat]'(by omega), t[c.toNat + 1]'(by omega)] := by
    rw [List.drop_eq_getElem_cons (by omega), List.drop_eq_getElem_cons (by omega)]
    rfl
  rw [e, List.getElem?_eq_getElem (by omega), List.getElem?_eq_getElem (by omega)]
  by_cases h : t[c.toNat]'(by omega) = UInt8.ofNat (ck (t.take c.toNat)).1 ∧ t[c.toNat + 1]'(by omega) = UInt8.ofNat (ck (t.take c.toNat)).2
  · rw [if_pos (by rw [h.1, h.2]), if_pos (by rw [h.1, h.2]; exact ⟨rfl, rfl⟩)]
    rfl
  · rw [if_neg (fun e => h (by simpa using e)), if_neg (fun e => h (by simpa using e))]
end Go.Proofs.Ytggfdkkhlokmlaa
