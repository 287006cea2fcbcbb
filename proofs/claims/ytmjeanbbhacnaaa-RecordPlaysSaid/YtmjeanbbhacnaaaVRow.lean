/- Rows of cells that a slice owns, what an append makes of them. The bound: at most 2^30 elements. -/
import Derived.Test.YtmjeanbbhacnaaaRecBackMath
namespace Go.Proofs.Ytmjeanbbhacnaaa
open Go.RowKit
/-! ### a row -/
/-- A slice's own row, or nil: n elements of sz cells each, the cells cs; capacity cap. -/
def VRow (e : TypeId) (sz : Nat) (w : World) (gb : Option Nat) (cap n : Nat) (cs : List Value) : Prop :=
  cs.length = n * sz ∧ n ≤ cap ∧ match gb with
  | none => cap = 0
  | some b => ∃ row, w.heap[b]? = some (.cells row e (0, 0)) ∧ row.size = cap * sz ∧ ∀ i, i < cs.length → row[i]? = cs[i]?
def VRow.val (gb : Option Nat) : Option Addr := gb.map fun b => ⟨b, 0, none⟩
section
variable {e : TypeId} {sz : Nat} {w w' : World} {gb : Option Nat} {cap n : Nat} {cs : List Value}
theorem VRow.kept (h : VRow e sz w gb cap n cs) (hb : ∀ b, gb = some b → w'.heap[b]? = w.heap[b]?) : VRow e sz w' gb cap n cs := by
  obtain ⟨h1, h2, h3⟩ := h
  refine ⟨h1, h2, ?_⟩
  cases gb with
  | none => exact h3
  | some b => obtain ⟨row, k1, k2⟩ := h3; exact ⟨row, (hb b rfl).trans k1, k2⟩
theorem VRow.lt {b : Nat} (h : VRow e sz w (some b) cap n cs) : b < w.heap.size := by
  obtain ⟨_, _, row, h3, _⟩ := h
  exact lt_of_block h3
theorem VRow.block {b : Nat} (h : VRow e sz w (some b) cap n cs) : ∃ row, w.heap[b]? = some (.cells row e (0, 0)) := by
  obtain ⟨_, _, row, h3, _⟩ := h
  exact ⟨row, h3⟩
theorem VRow.below (h : VRow e sz w gb cap n cs) (hb : Below w.heap.size w w') : VRow e sz w' gb cap n cs := h.kept fun b e => by subst e; exact hb.block _ h.lt
theorem VRow.nil (h : VRow e sz w none cap n cs) : cs = [] ∧ n = 0 ∧ cap = 0 := by
  obtain ⟨h1, h2, h3⟩ := h
  have h3' : cap = 0 := h3
  have hn : n = 0 := by omega
  subst hn
  exact ⟨List.length_eq_zero_iff.1 (by rw [h1, Nat.zero_mul]), rfl, h3'⟩
theorem VRow.cell (h : VRow e sz w gb cap n cs) (i : Nat) (hi : i < cs.length) : ∃ b, gb = some b ∧ w.cell? ⟨b, i, none⟩ = some (cs[i]) := by
  cases gb with
  | none => obtain ⟨rfl, _⟩ := h.nil; simp at hi
  | some b =>
    obtain ⟨_, _, row, h3, _, h4⟩ := h
    exact ⟨b, rfl, by rw [cell_of_row w b i row _ _ h3, h4 i hi, List.getElem?_eq_getElem hi]⟩
/-- Fewer elements. -/
theorem VRow.take (h : VRow e sz w gb cap n cs) {m : Nat} (hm : m ≤ n) : VRow e sz w gb cap m (cs.take (m * sz)) := by
  obtain ⟨h1, h2, h3⟩ := h
  have hms : m * sz ≤ n * sz := Nat.mul_le_mul_right _ hm
  refine ⟨by rw [List.length_take, h1]; omega, by omega, ?_⟩
  cases gb with
  | none => exact h3
  | some b =>
    obtain ⟨row, k1, k2, k3⟩ := h3
    refine ⟨row, k1, k2, fun i hi => ?_⟩
    rw [List.length_take] at hi
    rw [k3 i (by omega), List.getElem?_take_of_lt (by omega)]
end
/-- One element more. -/
theorem run_append_v {P : Program} (w : World) (t ty e : TypeId) (i : TypeInfo) (z : Value) (ht : P.underlying t = some (.slice e)) (hi : P.info? e = some i) (hz : i.zero = some z) (hzs : z.cells.size = i.size) (hby : i.bytes ≤ 100)
    (gb : Option Nat) (cap n : Nat) (cs : List Value) (hr : VRow e i.size w gb cap n cs) (x : Value) (news : List Value) (hsrc : Src P i.size t x 1 news w) (hn : n < 1073741824) :
    ∃ b' cap' W, (Builtin.append_ #[t, t] ty #[.slice (gb.map fun b => ⟨b, 0, none⟩) n cap, x]).run P w = .ok (.slice (some ⟨b', 0, none⟩) (n + 1) cap') W ∧
      VRow e i.size W (some b') cap' (n + 1) (cs ++ news) ∧ (gb = some b' ∨ w.heap.size ≤ b') ∧ w.grownBy W gb := by
  have hnl : news.length = i.size := by rw [hsrc.newsLen, Nat.one_mul]
  by_cases hroom : n < cap
  · cases gb with
    | none => obtain ⟨_, _, h3⟩ := hr.nil; omega
    | some b =>
      obtain ⟨h1, h2, row, h3, h4, h5⟩ := hr
      have hcap : (n + 1) * i.size ≤ cap * i.size := Nat.mul_le_mul_right _ hroom
      rw [Nat.succ_mul] at hcap
      have hrun := run_append_room_src w t t ty e i ht hi b 0 n cap x 1 news hsrc hroom (fun j hj => by
        rw [cell_of_row w b _ row _ _ h3, Array.getElem?_eq_getElem (by omega)]; rfl) (fun j hj => frozen_of_row w b _ _ _ h3)
      refine ⟨b, cap, _, hrun, ⟨?_, hroom, _, setCells_block b _ _ _ _ _ _ h3, ?_, ?_⟩, .inl rfl, setCells_grown _ _ _ _⟩
      · rw [List.length_append, h1, hnl, Nat.succ_mul]
      · rw [setMany_size, h4]
      · intro k hk
        rw [List.length_append, h1, hnl] at hk
        rw [Nat.zero_add]
        by_cases e1 : k < n * i.size
        · rw [setMany_lt _ _ _ _ e1, List.getElem?_append_left (by omega)]
          exact h5 k (by omega)
        · rw [List.getElem?_append_right (by omega), h1]
          have := setMany_in news row (n * i.size) (k - n * i.size) (by omega) (by omega)
          rw [show n * i.size + (k - n * i.size) = k by omega] at this
          exact this
  · have hold : (Builtin.firstCells i.size n (.slice (gb.map fun b => ⟨b, 0, none⟩) n cap)).run P w.drew = .ok cs.toArray w.drew := by
      cases gb with
      | none =>
        obtain ⟨rfl, rfl, rfl⟩ := hr.nil
        simp [Builtin.firstCells]
      | some b =>
        obtain ⟨h1, h2, row, h3, h4, h5⟩ := hr
        refine run_firstCells_some w.drew i.size n ⟨b, 0, none⟩ n cap cs h1 (fun j u hj => ?_)
        have hj' : j < cs.length := by
          rcases Nat.lt_or_ge j cs.length with h' | h'
          · exact h'
          · rw [List.getElem?_eq_none h'] at hj; cases hj
        rw [add_head, cell_of_row w.drew b j row _ _ h3, h5 j hj']
        exact hj
    have hnc : n = cap := by have := hr.2.1; omega
    have hrun := run_append_grow_src w t t ty e i z ht hi hz (gb.map fun b => ⟨b, 0, none⟩) n cap cs hold x 1 news hsrc (by omega) (by omega)
      (by
        have h1 : Builtin.nextslicecap (n + 1) cap ≤ 2 * (n + 1) + 1000 := Nat.le_trans (nextslicecap_le (by omega)) (by omega)
        obtain ⟨q, hq⟩ : ∃ q, q = Builtin.nextslicecap (n + 1) cap := ⟨_, rfl⟩
        rw [← hq] at h1 ⊢
        have h2 : q * i.bytes ≤ q * 100 := Nat.mul_le_mul_left q hby
        omega)
    have hle : n + 1 ≤ grownCap w (n + 1) cap e := Nat.le_add_right _ _
    refine ⟨_, _, _, hrun, ⟨?_, hle, _, heap_alloc_new _ _, ?_, ?_⟩, .inr ?_, ⟨rfl, rfl, rfl, ?_, fun k hk _ => heap_alloc_old _ _ hk⟩⟩
    · rw [List.length_append, hr.1, hnl, Nat.succ_mul]
    · have hle2 : grownCap w (n + 1) cap e = n + 1 + (grownCap w (n + 1) cap e - (n + 1)) := by omega
      rw [Array.size_append, size_zeroCells, hzs, List.size_toArray, List.length_append, hr.1, hnl]
      rw [hle2, Nat.add_mul, Nat.succ_mul]
      simp
    · intro k hk
      rw [Array.getElem?_append_left (by simpa using hk)]
      simp
    · simp
    · simp [World.size_alloc]
theorem src_cells {P : Program} (w : World) (t e : TypeId) (ht : P.underlying t = some (.slice e)) (vs : List Value) (h1 : ∀ v ∈ vs, v.oneCell' = true) (sz : Nat) (hsz : vs.length = sz) (row : Array Value) (hrow : row = vs.toArray) (c : Nat) :
    Src P sz t (.slice (some ⟨w.heap.size, 0, none⟩) 1 c) 1 vs (w.alloc (.cells row e (0, 0))) := by
  subst hrow
  refine Src.ofSlice _ ht ⟨w.heap.size, 0, none⟩ 1 c _ (by omega) (fun j u hj => ?_) h1
  rw [add_head, cell_of_row _ w.heap.size j _ _ _ (heap_alloc_new w _)]
  simpa using hj
theorem info_int : (Try.prog.info? 3).map (fun i => (i.zero, i.size, i.bytes)) = some (some (.int .i64 0), 1, 8) := by kernel_rfl
/-- One number more. -/
theorem run_append_int (w : World) (ty : TypeId) (gb : Option Nat) (cap n : Nat) (cs : List Value) (hr : VRow 3 1 w gb cap n cs) (v : Int) (hn : n < 1000000) :
    ∃ b' cap' W, (Builtin.append_ #[56, 56] ty #[.slice (gb.map fun b => ⟨b, 0, none⟩) n cap, .slice (some ⟨w.heap.size, 0, none⟩) 1 1]).run Try.prog (w.alloc (.cells #[.int .i64 v] 3 (0, 0))) = .ok (.slice (some ⟨b', 0, none⟩) (n + 1) cap') W ∧
      VRow 3 1 W (some b') cap' (n + 1) (cs ++ [.int .i64 v]) ∧ (gb = some b' ∨ w.heap.size ≤ b') ∧ (w.alloc (.cells #[.int .i64 v] 3 (0, 0))).grownBy W gb := by
  obtain ⟨i, hi, hz, hsz, hby⟩ := info_parts info_int
  obtain ⟨w1, hw1⟩ : ∃ w1, w1 = w.alloc (.cells #[.int .i64 v] 3 (0, 0)) := ⟨_, rfl⟩
  have hbel : Below w.heap.size w w1 := by rw [hw1]; exact (Below.refl _ _).alloc (Nat.le_refl _) _
  have hsrc : Src Try.prog i.size 56 (.slice (some ⟨w.heap.size, 0, none⟩) 1 1) 1 [.int .i64 v] w1 := by
    rw [hw1, hsz]
    exact src_cells w _ _ Try.underlying56 [.int .i64 v] (fun u hu => by rw [List.mem_singleton.1 hu]; rfl) 1 rfl _ rfl 1
  obtain ⟨b', cap', W, r1, r2, r3, r4⟩ := run_append_v w1 56 ty 3 i _ Try.underlying56 hi hz (by rw [hsz]; rfl) (by omega) gb cap n cs (by rw [hsz]; exact hr.below hbel) _ _ hsrc (by omega)
  rw [hsz] at r2
  rw [← hw1]
  refine ⟨b', cap', W, r1, r2, ?_, r4⟩
  rcases r3 with r | r
  · exact .inl r
  · exact .inr (by rw [hw1, World.size_alloc] at r; omega)
end Go.Proofs.Ytmjeanbbhacnaaa
