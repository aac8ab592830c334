/- The two small runs that ask whether package ledger answers at all. -/
import Derived.Test.YtggfdkkhlokmlabCSwp
import Derived.Test.YtggfdkkhlokmlabCMem
namespace Go.Proofs.Ytggfdkkhlokmlab
open Go.RowKit

/-- A new house in which bank 0 has 9. -/
def h9 : Hs := Hs.new.setHas 0 9
theorem newBank (i : Int) : BankOk Hs.new i :=
  ⟨by simp [Hs.new, sm], by simp [Hs.new, sm], fun k _ _ => ⟨by simp [Hs.new, sm], by simp [Hs.new, sm], fun _ => rfl⟩⟩
theorem new_good : GoodP Hs.new [] := ⟨by simp, by simp [Hs.new, sm], fun i _ _ => newBank i, by simp, by simp⟩
theorem h9_bank (i : Int) : BankOk h9 i :=
  ⟨by by_cases e : i = 0 <;> simp [h9, Hs.setHas, Hs.new, sm, e], by simp [h9, Hs.setHas, Hs.new, sm], fun k _ _ => ⟨by simp [h9, Hs.setHas, Hs.new, sm], by simp [h9, Hs.setHas, Hs.new, sm], fun _ => rfl⟩⟩
theorem h9_good : GoodP h9 [] := ⟨by simp, by simp [h9, Hs.setHas, Hs.new, sm], fun i _ _ => h9_bank i, by simp, by simp⟩
theorem h9_may9 : mayB h9 0 1 9 = true := by decide
theorem h9_may10 : mayB h9 0 1 10 = false := by decide
theorem s015 : Sends 0 1 5 := ⟨by omega, by omega, by omega, by omega, by omega, by omega, by omega⟩
def h5 : Hs := h9.move 0 1 5
theorem h5_room : h5.Room := ⟨fun i h0 h1 => by rcases four ⟨h0, h1⟩ with rfl | rfl | rfl | rfl <;> decide, fun i h0 h1 => by rcases four ⟨h0, h1⟩ with rfl | rfl | rfl | rfl <;> decide,
  fun i k h0 h1 k0 k1 => by rcases four ⟨h0, h1⟩ with rfl | rfl | rfl | rfl <;> rcases four ⟨k0, k1⟩ with rfl | rfl | rfl | rfl <;> decide⟩
theorem nilPays (w : World) : PaysAt w none 0 [] := ⟨by simp, by simp [maxLen], by simp, fun _ => rfl, fun h => absurd h (by simp)⟩
theorem hc_h9 : (hc Hs.new (.slice none 0 0)).setIfInBounds 0 (.int .i64 9) = hc h9 (.slice none 0 0) := rfl
theorem hc_h5_1 : (hc h5 (.slice none 0 0))[2]? = some (.int .i64 5) := rfl

attribute [local go_sem] hc_pays hc_next hc_size hc_h9 hc_h5_1
end Go.Proofs.Ytggfdkkhlokmlab

