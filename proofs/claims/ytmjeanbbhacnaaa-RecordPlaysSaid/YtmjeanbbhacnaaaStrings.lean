/- A row of strings that a slice owns, or a nil slice: what an append of one string makes of it. The bound: at most 2^40 strings. -/
import Derived.Test.YtmjeanbbhacnaaaDiskNames
namespace Go.Proofs.Ytmjeanbbhacnaaa
open Go.RowKit
def SRowO (w : World) (gb : Option Nat) (cap : Nat) (ns : List ByteArray) : Prop :=
  match gb with
  | none => ns = [] ∧ cap = 0
  | some b => SRow w b cap ns
theorem SRowO.kept {w w' : World} {gb : Option Nat} {cap : Nat} {ns : List ByteArray} (h : SRowO w gb cap ns) (hb : ∀ b, gb = some b → w'.heap[b]? = w.heap[b]?) : SRowO w' gb cap ns := by
  cases gb with
  | none => exact h
  | some b => exact SRow.kept h (hb b rfl)
theorem SRowO.lt {w : World} {b cap : Nat} {ns : List ByteArray} (h : SRowO w (some b) cap ns) : b < w.heap.size := SRow.lt h
theorem SRowO.cell {w : World} {gb : Option Nat} {cap : Nat} {ns : List ByteArray} (h : SRowO w gb cap ns) (i : Nat) (hi : i < ns.length) : ∃ b, gb = some b ∧ w.cell? ⟨b, i, none⟩ = some (.string (ns[i])) := by
  cases gb with
  | none => obtain ⟨rfl, _⟩ : ns = [] ∧ cap = 0 := h; simp at hi
  | some b => exact ⟨b, rfl, SRow.cell h i hi⟩
def scells (ns : List ByteArray) : List Value := ns.map Value.string
theorem src_one (w : World) (s : ByteArray) : Src Try.prog 1 32 (.slice (some ⟨w.heap.size, 0, none⟩) 1 1) 1 [.string s] (w.alloc (.cells #[.string s] 9 (0, 0))) := by
  refine Src.ofSlice _ Try.underlying32 ⟨w.heap.size, 0, none⟩ 1 1 _ rfl (fun j u hj => ?_) (fun u hu => ?_)
  · have hj0 : j = 0 := by
      rcases j with _ | j
      · rfl
      · simp at hj
    subst hj0
    rw [add_head, cell_of_row _ w.heap.size 0 _ _ _ (heap_alloc_new w _)]
    exact hj
  · rw [List.mem_singleton.1 hu]; rfl
/-- One string more. -/
theorem run_append_string (w : World) (ty : TypeId) (gb : Option Nat) (cap : Nat) (ns : List ByteArray) (hr : SRowO w gb cap ns) (s : ByteArray) (hs : ns.length < 1099511627776) :
    ∃ b' cap' W, (Builtin.append_ #[32, 32] ty #[.slice (gb.map fun b => ⟨b, 0, none⟩) ns.length cap, .slice (some ⟨w.heap.size, 0, none⟩) 1 1]).run Try.prog (w.alloc (.cells #[.string s] 9 (0, 0))) =
      .ok (.slice (some ⟨b', 0, none⟩) (ns.length + 1) cap') W ∧ SRowO W (some b') cap' (ns ++ [s]) ∧ (gb = some b' ∨ w.heap.size ≤ b') ∧ (w.alloc (.cells #[.string s] 9 (0, 0))).grownBy W gb := by
  by_cases hroom : ns.length < cap
  · cases gb with
    | none => obtain ⟨rfl, rfl⟩ : ns = [] ∧ cap = 0 := hr; simp at hroom
    | some b =>
      obtain ⟨h1, h2⟩ := run_append_name w ty b cap ns hr hroom s
      exact ⟨b, cap, _, h1, h2, .inl rfl, setCells_grown (w.alloc (.cells #[.string s] 9 (0, 0))) b ns.length [.string s]⟩
  · obtain ⟨i, hi, hz, hsz, hby⟩ := info_parts info_string
    obtain ⟨w1, hw1⟩ : ∃ w1, w1 = w.alloc (.cells #[.string s] 9 (0, 0)) := ⟨_, rfl⟩
    have hsrc : Src Try.prog i.size 32 (.slice (some ⟨w.heap.size, 0, none⟩) 1 1) 1 [.string s] w1 := by rw [hsz, hw1]; exact src_one w s
    have hb1 : ∀ b, gb = some b → w1.heap[b]? = w.heap[b]? := fun b e => by
      rw [e] at hr
      rw [hw1, heap_alloc_old _ _ hr.lt]
    have hr1 := hr.kept hb1
    have hold : (Builtin.firstCells i.size ns.length (.slice (gb.map fun b => ⟨b, 0, none⟩) ns.length cap)).run Try.prog w1.drew = .ok (scells ns).toArray w1.drew := by
      cases gb with
      | none =>
        obtain ⟨rfl, rfl⟩ : ns = [] ∧ cap = 0 := hr
        simp [Builtin.firstCells, scells]
      | some b =>
        refine run_firstCells_some w1.drew i.size ns.length ⟨b, 0, none⟩ ns.length cap (scells ns) (by rw [hsz]; simp [scells]) (fun j u hj => ?_)
        have hj' : j < ns.length := by
          rcases Nat.lt_or_ge j ns.length with h' | h'
          · exact h'
          · rw [List.getElem?_eq_none (by simp [scells]; exact h')] at hj; cases hj
        have hc := SRow.cell (w := w1.drew) (b := b) (cap := cap) (ns := ns) hr1 j hj'
        rw [add_head, hc]
        simpa [scells, hj'] using hj
    have hrun := run_append_grow_src w1 32 32 ty 9 i (.string ⟨#[]⟩) Try.underlying32 hi hz (gb.map fun b => ⟨b, 0, none⟩) ns.length cap (scells ns) hold _ 1 _ hsrc (by omega) (by omega)
      (by
        rw [hby]
        have : Builtin.nextslicecap (ns.length + 1) cap ≤ 2 * (ns.length + 1) + 1000 := Nat.le_trans (nextslicecap_le (by omega)) (by omega)
        omega)
    have hle : ns.length + 1 ≤ grownCap w1 (ns.length + 1) cap 9 := Nat.le_add_right _ _
    rw [hw1] at hrun
    refine ⟨_, _, _, hrun, ⟨_, heap_alloc_new _ _, ?_, ?_, ?_⟩, .inr ?_, ⟨rfl, rfl, rfl, ?_, fun k hk _ => heap_alloc_old _ _ hk⟩⟩
    · rw [← hw1]
      simp [Builtin.zeroCells, Value.cells, scells]; omega
    · rw [← hw1, List.length_append]; exact hle
    · intro k hk
      rw [Array.getElem?_append_left (by simpa [scells] using hk)]
      rw [List.length_append] at hk
      simp only [List.getElem?_toArray, scells]
      by_cases e : k < ns.length
      · rw [List.getElem?_append_left (by simpa using e), List.getElem?_append_left e, List.getElem?_map]
      · have e2 : k = ns.length := by simp only [List.length_cons, List.length_nil] at hk; omega
        subst e2
        rw [List.getElem?_append_right (by simp), List.getElem?_append_right (Nat.le_refl _)]
        simp
    · simp [World.size_alloc]
    · simp only [World.size_alloc, World.size_drew]; omega
end Go.Proofs.Ytmjeanbbhacnaaa
