/- What the bound of an Upto statement gives: how long the texts are. -/
import Derived.Test.YtmjeanbbhacnaaaStrArg
import Derived.Test.YtmjeanbbhacnaaaRows
namespace Go.Proofs.Ytmjeanbbhacnaaa
open Go.RowKit Go.ChangeShapes Go.WideShapes Go.ChangeAt
theorem bulk_part {H : Type} {d : DataW H} {l : List (DataW H)} (h : d ∈ l) : Rows.uptoBulk d ≤ Rows.uptoBulkAll l := by
  induction l with
  | nil => cases h
  | cons x r ih =>
    simp only [Rows.uptoBulkAll]
    cases List.mem_cons.1 h with
    | inl e => subst e; omega
    | inr e => have := ih e; omega
theorem bulk_elems {H : Type} (elems spare : List (DataW H)) : Rows.uptoBulkAll elems ≤ Rows.uptoBulk (.slice elems spare) := by
  simp only [Rows.uptoBulk]; omega
theorem bulk_string {H : Type} (s : ByteArray) : s.size ≤ Rows.uptoBulk (DataW.lit (H := H) (.string s.data.toList)) := by
  have e : s.data.toList.length = s.size := by rw [Array.length_toList]; rfl
  simp only [Rows.uptoBulk]; omega
theorem open_strbulk {H : Type} {enc : TypeId × Value → H} {w : World} {base : Nat} {spare : Nat → Bool} {held : Bool} {v : Value} {d : DataW H} {p : List MemPlace} (hv : ∃ a len cap, v = .slice a len cap)
    (h : DataW.Trod enc Try.prog w base spare held 32 v d p) : ∃ ss, StrArg w v ss ∧ ∀ t ∈ ss, t.size ≤ Rows.uptoBulk d := by
  obtain ⟨a0, len0, cap0, rfl⟩ := hv
  obtain ⟨fuel, hf⟩ := h
  rcases open_strings Try.underlying32 Try.underlying9 (by kernel_rfl) hf with ⟨hcs, hx⟩ | ⟨a, len, cap, ss, hcs, _, hl, hm, hz, hx, hcell, hsz⟩
  · have e : (Value.slice a0 len0 cap0).cells.toList = [.slice a0 len0 cap0] := rfl
    obtain ⟨rfl, rfl, rfl⟩ : a0 = none ∧ len0 = 0 ∧ cap0 = 0 := by
      have e2 := e.symm.trans hcs
      simpa using e2
    exact ⟨[], ⟨none, 0, 0, rfl, rfl, Nat.le_refl _, by omega, fun i h => absurd h (by simp)⟩, fun t h => by cases h⟩
  · have e : (Value.slice a0 len0 cap0).cells.toList = [.slice a0 len0 cap0] := rfl
    obtain ⟨rfl, rfl, rfl⟩ : a0 = some a ∧ len0 = len ∧ cap0 = cap := by
      have e2 := e.symm.trans hcs
      simpa using e2
    have hle : len0 ≤ ss.length := by rw [hz]; split <;> omega
    refine ⟨ss.take len0, ⟨some a, len0, cap0, rfl, by rw [List.length_take]; omega, hl, by unfold maxLen at hm; omega, fun i h => ⟨a, rfl, ?_, ?_⟩⟩, fun t ht => ?_⟩
    · rw [List.length_take] at h
      have := hcell i (by omega)
      have hb : (a.add i).block = a.block := by unfold Addr.add; split <;> rfl
      rw [← hb]; exact World.block_lt_of_cell? w (a.add i) this
    · rw [List.length_take] at h
      rw [hcell i (by omega), List.getD_eq_getElem?_getD, List.getElem?_eq_getElem (by omega)]
      simp
    · have hd : d = .slice (strs (ss.take len0)) (strs (ss.drop len0)) := congrArg Prod.fst hx
      rw [hd]
      refine Nat.le_trans (bulk_string (H := H) t) (Nat.le_trans (bulk_part ?_) (bulk_elems _ _))
      unfold strs
      exact List.mem_map.2 ⟨t, ht, rfl⟩
end Go.Proofs.Ytmjeanbbhacnaaa
