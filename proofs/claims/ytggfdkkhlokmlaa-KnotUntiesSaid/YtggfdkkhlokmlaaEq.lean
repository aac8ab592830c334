/- An array or a struct of ints equals itself. -/
import Derived.Test.YtggfdkkhlokmlaaHouse
import Derived.Test.YtggfdkkhlokmlaaChecked
import Derived.ChangeKeysEq
namespace Go.Proofs.Ytggfdkkhlokmlaa
open Go.RowKit

theorem eqi (d : Nat) (a b : Int) (w : World) : (Op.equalIn (d + 1) 3 (.int .i64 a) (.int .i64 b)).run Try.prog w = .ok (a == b) w :=
  run_equalIn_int w d _ _ _ a b Try.underlying3
theorem part_int (cs : Array Value) (off : Nat) (v : Value) (h : cs[off]? = some v) (w : World) : (part 3 cs off).run Try.prog w = .ok v w := by
  have hagg : (isAgg 3).run Try.prog w = .ok false w := by
    unfold isAgg
    rw [Sem.run_bind, run_underlying Try.underlying3 w]
    rfl
  simp [part, Sem.run_bind, hagg, h]
theorem part_agg {t : TypeId} {d : TypeDesc} (hu : Try.prog.underlying t = some d) (hd : (match d with | .struct _ | .array _ _ => true | _ => false) = true) {i : TypeInfo} (hi : Try.prog.info? t = some i) (cs : Array Value) (off : Nat) (w : World) :
    (part t cs off).run Try.prog w = .ok (.agg (cs.extract off (off + i.size))) w := by
  have hagg : (isAgg t).run Try.prog w = .ok true w := by
    unfold isAgg
    rw [Sem.run_bind, run_underlying hu w]
    cases d <;> simp_all
  simp [part, Sem.run_bind, hagg, sizeOf, typeInfo, hi]
theorem cells3 : Try.prog.cellsOf 3 = 1 := by kernel_rfl
theorem infoSome {t n : Nat} (h : (Try.prog.info? t).map (·.size) = some n) : ∃ i, Try.prog.info? t = some i ∧ i.size = n := by
  cases hq : Try.prog.info? t with
  | none => simp [hq] at h
  | some i => exact ⟨i, rfl, by simpa [hq] using h⟩
theorem info3 : (Try.prog.info? 3).map (·.size) = some 1 := by kernel_rfl
theorem info26 : (Try.prog.info? 26).map (·.size) = some 4 := by kernel_rfl
theorem cells26 : Try.prog.cellsOf 26 = 4 := by kernel_rfl
theorem cells24 : Try.prog.cellsOf 24 = 2 := by kernel_rfl

/-- All cells are ints. -/
def Ints (xs : Array Value) (n : Nat) : Prop := ∀ i, i < n → ∃ a, xs[i]? = some (.int .i64 a)
theorem eq4 (d : Nat) (xs : Array Value) (hx : Ints xs 4) (w : World) : (Op.equalIn (d + 2) 26 (.agg xs) (.agg xs)).run Try.prog w = .ok true w := by
  obtain ⟨i, hi, _⟩ := infoSome info3
  rw [run_equalIn_array w (d + 1) xs xs Try.underlying26 hi, cells3]
  have key : ∀ is : List Nat, (∀ j ∈ is, j < 4) → (Op.eqItems (d + 1) 3 1 xs xs is).run Try.prog w = .ok true w := by
    intro is
    induction is with
    | nil => intro _; simp [Op.eqItems]
    | cons j js ih =>
      intro hj
      obtain ⟨a, ha⟩ := hx j (hj j (by simp))
      have hp := part_int xs (j * 1) _ (by simpa using ha) w
      simp only [Op.eqItems, Sem.run_bind, hp, Result.andThen_ok, eqi]
      simpa using ih (fun k hk => hj k (by simp [hk]))
  exact key _ (fun j hj => List.mem_range.1 hj)
theorem eq44 (d : Nat) (xs : Array Value) (hx : Ints xs 16) (w : World) : (Op.equalIn (d + 3) 27 (.agg xs) (.agg xs)).run Try.prog w = .ok true w := by
  obtain ⟨i, hi, his⟩ := infoSome info26
  rw [run_equalIn_array w (d + 2) xs xs Try.underlying27 hi, cells26]
  have key : ∀ is : List Nat, (∀ j ∈ is, j < 4) → (Op.eqItems (d + 2) 26 4 xs xs is).run Try.prog w = .ok true w := by
    intro is
    induction is with
    | nil => intro _; simp [Op.eqItems]
    | cons j js ih =>
      intro hj
      have hj4 := hj j (by simp)
      have hp := part_agg Try.underlying26 rfl hi xs (j * 4) w
      have he := eq4 d (xs.extract (j * 4) (j * 4 + i.size)) (fun k hk => by
        obtain ⟨a, ha⟩ := hx (j * 4 + k) (by omega)
        have hlt := (Array.getElem?_eq_some_iff.1 ha).1
        exact ⟨a, by rw [his, Array.getElem?_extract, if_pos (by omega)]; exact ha⟩) w
      simp only [Op.eqItems, Sem.run_bind, hp, Result.andThen_ok, he]
      simpa using ih (fun k hk => hj k (by simp [hk]))
  exact key _ (fun j hj => List.mem_range.1 hj)
theorem eqFields_ints (d : Nat) (xs : Array Value) (w : World) : ∀ fs : List Field, (∀ f ∈ fs, (f.name == "_") = false ∧ f.type = 3 ∧ ∃ a, xs[f.offset]? = some (.int .i64 a)) → (Op.eqFields (d + 1) xs xs fs).run Try.prog w = .ok true w
  | [], _ => by simp [Op.eqFields]
  | f :: fs, h => by
    obtain ⟨h1, h2, a, ha⟩ := h f (by simp)
    have h1' : f.name ≠ "_" := by simpa using h1
    have ih := eqFields_ints d xs w fs (fun g hg => h g (by simp [hg]))
    simp only [Op.eqFields, h2]
    simp [Sem.run_bind, part_int _ _ _ ha, eqi, ih, h1']
theorem eqStruct (d : Nat) {t : TypeId} (xs : Array Value) (n : Nat) (hx : Ints xs n) (ht : Try.prog.underlying t = some (.struct (Try.prog.fieldsOf t))) (hp : Try.prog.stoodInHeld t = false)
    (hf : ((Try.prog.fieldsOf t).toList.all fun f => !(f.name == "_") && f.type == 3 && decide (f.offset < n)) = true) (w : World) : (Op.equalIn (d + 2) t (.agg xs) (.agg xs)).run Try.prog w = .ok true w := by
  rw [run_equalIn_struct w (d + 1) _ _ _ ht hp]
  refine eqFields_ints d xs w _ fun f hm => ?_
  have := List.all_eq_true.1 hf f hm
  simp only [Bool.and_eq_true, Bool.not_eq_true', beq_iff_eq, decide_eq_true_eq] at this
  exact ⟨this.1.1, this.1.2, hx _ this.2⟩
theorem eq2 (d : Nat) (a b : Int) (w : World) : (Op.equalIn (d + 2) 24 (.agg #[.int .i64 a, .int .i64 b]) (.agg #[.int .i64 a, .int .i64 b])).run Try.prog w = .ok true w :=
  eqStruct d _ 2 (fun i hi => by rcases i with _ | _ | i <;> first | exact ⟨_, rfl⟩ | omega) (by kernel_rfl) (by kernel_rfl) (by kernel_rfl) w
theorem eqA (d : Nat) (h : Hs) (w : World) : (Op.equalIn (d + 3) 25 (.agg (accs h)) (.agg (accs h))).run Try.prog w = .ok true w := by
  obtain ⟨i, hi, his⟩ := infoSome (t := 24) (n := 2) (by kernel_rfl)
  rw [run_equalIn_array w (d + 2) _ _ Try.underlying25 hi, cells24]
  have key : ∀ is : List Nat, (∀ j ∈ is, j < 4) → (Op.eqItems (d + 2) 24 2 (accs h) (accs h) is).run Try.prog w = .ok true w := by
    intro is
    induction is with
    | nil => intro _; simp [Op.eqItems]
    | cons j js ih =>
      intro hj
      have hj4 := hj j (by simp)
      have hp := part_agg Try.underlying24 rfl hi (accs h) (j * 2) w
      have hx : (accs h).extract (j * 2) (j * 2 + i.size) = #[.int .i64 (h.has j), .int .i64 (h.cr j)] := by
        rw [his]
        rcases j with _ | _ | _ | _ | j <;> first | rfl | omega
      rw [hx] at hp
      simp only [Op.eqItems, Sem.run_bind, hp, Result.andThen_ok, eq2]
      simpa using ih (fun k hk => hj k (by simp [hk]))
  exact key _ (fun j hj => List.mem_range.1 hj)
theorem sents_ints (h : Hs) : Ints (sents h) 16 := by
  intro i hi
  rcases i with _ | _ | _ | _ | _ | _ | _ | _ | _ | _ | _ | _ | _ | _ | _ | _ | i <;> first | exact ⟨_, rfl⟩ | omega
theorem lims_ints (h : Hs) : Ints (lims h) 16 := by
  intro i hi
  rcases i with _ | _ | _ | _ | _ | _ | _ | _ | _ | _ | _ | _ | _ | _ | _ | _ | i <;> first | exact ⟨_, rfl⟩ | omega
theorem eqP (d : Nat) (p : Pay) (w : World) : (Op.equalIn (d + 2) 36 (.agg (pc p)) (.agg (pc p))).run Try.prog w = .ok true w :=
  eqStruct d _ 6 (fun i hi => by rcases i with _ | _ | _ | _ | _ | _ | i <;> first | exact ⟨_, rfl⟩ | omega) (by kernel_rfl) (by kernel_rfl) (by kernel_rfl) w
theorem neq_accs (h : Hs) (w : World) : (binOp .neq 25 (.agg (accs h)) (.agg (accs h))).run Try.prog w = .ok (.bool false) w := by
  rw [run_neq_struct, eqA 9997]; rfl
theorem neq_sents (h : Hs) (w : World) : (binOp .neq 27 (.agg (sents h)) (.agg (sents h))).run Try.prog w = .ok (.bool false) w := by
  rw [run_neq_struct, eq44 9997 _ (sents_ints h)]; rfl
theorem neq_lims (h : Hs) (w : World) : (binOp .neq 27 (.agg (lims h)) (.agg (lims h))).run Try.prog w = .ok (.bool false) w := by
  rw [run_neq_struct, eq44 9997 _ (lims_ints h)]; rfl
theorem neq_pay (p : Pay) (w : World) : (binOp .neq 36 (.agg (pc p)) (.agg (pc p))).run Try.prog w = .ok (.bool false) w := by
  rw [run_neq_struct, eqP 9998]; rfl
theorem neq_acc (a b : Int) (w : World) : (binOp .neq 24 (.agg #[.int .i64 a, .int .i64 b]) (.agg #[.int .i64 a, .int .i64 b])).run Try.prog w = .ok (.bool false) w := by
  rw [run_neq_struct, eq2 9998]; rfl
end Go.Proofs.Ytggfdkkhlokmlaa
