/- A slice of strings that came in as an argument. No condition. -/
import Derived.Test.YtmjeanbbhacnaaaRow
import Derived.SliceStrings
import Derived.Carry
namespace Go.Proofs.Ytmjeanbbhacnaaa
open Go.RowKit Go.ChangeShapes Go.WideShapes
/-- The value is a slice of these strings. -/
def StrArg (w : World) (v : Value) (ss : List ByteArray) : Prop :=
  ∃ (a : Option Addr) (len cap : Nat), v = .slice a len cap ∧ ss.length = len ∧ len ≤ cap ∧ (len : Int) ≤ 9223372036854775807 ∧ ∀ i (h : i < ss.length), ∃ b, a = some b ∧ b.block < w.heap.size ∧ w.cell? (b.add i) = some (.string (ss[i]))
theorem open_strarg {H : Type} {enc : TypeId × Value → H} {w : World} {base : Nat} {spare : Nat → Bool} {held : Bool} {v : Value} {d : DataW H} {p : List MemPlace} (hv : ∃ a len cap, v = .slice a len cap)
    (h : DataW.Trod enc Try.prog w base spare held 32 v d p) : ∃ ss, StrArg w v ss := by
  obtain ⟨a0, len0, cap0, rfl⟩ := hv
  obtain ⟨fuel, hf⟩ := h
  rcases open_strings Try.underlying32 Try.underlying9 (by kernel_rfl) hf with ⟨hcs, hx⟩ | ⟨a, len, cap, ss, hcs, _, hl, hm, hz, hx, hcell, hsz⟩
  · have e : (Value.slice a0 len0 cap0).cells.toList = [.slice a0 len0 cap0] := rfl
    obtain ⟨rfl, rfl, rfl⟩ : a0 = none ∧ len0 = 0 ∧ cap0 = 0 := by
      have e2 := e.symm.trans hcs
      simpa using e2
    exact ⟨[], none, 0, 0, rfl, rfl, Nat.le_refl _, by omega, fun i h => absurd h (by simp)⟩
  · have e : (Value.slice a0 len0 cap0).cells.toList = [.slice a0 len0 cap0] := rfl
    obtain ⟨rfl, rfl, rfl⟩ : a0 = some a ∧ len0 = len ∧ cap0 = cap := by
      have e2 := e.symm.trans hcs
      simpa using e2
    have hle : len0 ≤ ss.length := by rw [hz]; split <;> omega
    refine ⟨ss.take len0, some a, len0, cap0, rfl, by rw [List.length_take]; omega, hl, by unfold maxLen at hm; omega, fun i h => ⟨a, rfl, ?_, ?_⟩⟩
    · rw [List.length_take] at h
      have := hcell i (by omega)
      have hb : (a.add i).block = a.block := by unfold Addr.add; split <;> rfl
      rw [← hb]; exact World.block_lt_of_cell? w (a.add i) this
    · rw [List.length_take] at h
      rw [hcell i (by omega), List.getD_eq_getElem?_getD, List.getElem?_eq_getElem (by omega)]
      simp
end Go.Proofs.Ytmjeanbbhacnaaa
