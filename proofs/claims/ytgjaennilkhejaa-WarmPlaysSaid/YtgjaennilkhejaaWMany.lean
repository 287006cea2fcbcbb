/- Several elements appended to a row that a slice owns. The bound: at most 2^30 elements. -/
import Derived.Test.YtgjaennilkhejaaWRefLog
import Derived.Lib.Strings
namespace Go.Proofs.Ytgjaennilkhejaa
open Go.RowKit
theorem run_append_q {P : Program} (w : World) (t ty e : TypeId) (i : TypeInfo) (z : Value) (ht : P.underlying t = some (.slice e)) (hi : P.info? e = some i) (hz : i.zero = some z) (hzs : z.cells.size = i.size) (hby : i.bytes ≤ 200)
    (b cap n : Nat) (cs : List Value) (hr : VRow e i.size w (some b) cap n cs) (x : Value) (q : Nat) (news : List Value) (hsrc : Src P i.size t x q news w) (hn : n + q < 1073741824) :
    ∃ b' cap' W, (Builtin.append_ #[t, t] ty #[.slice (some ⟨b, 0, none⟩) n cap, x]).run P w = .ok (.slice (some ⟨b', 0, none⟩) (n + q) cap') W ∧
      VRow e i.size W (some b') cap' (n + q) (cs ++ news) ∧ (b' = b ∨ w.heap.size ≤ b') ∧ w.grownBy W (some b) := by
  have hnl : news.length = q * i.size := hsrc.newsLen
  obtain ⟨h1, h2, row, h3, h4, h5⟩ := hr
  by_cases hroom : n + q ≤ cap
  · have hcap : (n + q) * i.size ≤ cap * i.size := Nat.mul_le_mul_right _ hroom
    rw [Nat.add_mul] at hcap
    have hrun := run_append_room_src w t t ty e i ht hi b 0 n cap x q news hsrc hroom (fun j hj => by
      rw [cell_of_row w b _ row _ _ h3, Array.getElem?_eq_getElem (by omega)]; rfl) (fun j hj => frozen_of_row w b _ _ _ h3)
    refine ⟨b, cap, _, hrun, ⟨?_, hroom, _, setCells_block b _ _ _ _ _ _ h3, ?_, ?_⟩, .inl rfl, setCells_grown _ _ _ _⟩
    · rw [List.length_append, h1, hnl, Nat.add_mul]
    · rw [setMany_size, h4]
    · intro k hk
      rw [List.length_append, h1, hnl] at hk
      rw [Nat.zero_add]
      by_cases e1 : k < n * i.size
      · rw [setMany_lt _ _ _ _ e1, List.getElem?_append_left (by omega)]
        exact h5 k (by omega)
      · rw [List.getElem?_append_right (by omega), h1]
        have := setMany_in news row (n * i.size) (k - n * i.size) (by omega) (by omega)
        rw [show n * i.size + (k - n * i.size) = k by omega] at this
        exact this
  · have hold : (Builtin.firstCells i.size n (.slice (some ⟨b, 0, none⟩) n cap)).run P w.drew = .ok cs.toArray w.drew := by
      refine run_firstCells_some w.drew i.size n ⟨b, 0, none⟩ n cap cs h1 (fun j u hj => ?_)
      have hj' : j < cs.length := by
        rcases Nat.lt_or_ge j cs.length with h' | h'
        · exact h'
        · rw [List.getElem?_eq_none h'] at hj; cases hj
      rw [add_head, cell_of_row w.drew b j row _ _ h3, h5 j hj']
      exact hj
    have hrun := run_append_grow_src w t t ty e i z ht hi hz (some ⟨b, 0, none⟩) n cap cs hold x q news hsrc (by omega) (by omega)
      (by
        have h1 : Builtin.nextslicecap (n + q) cap ≤ 2 * (n + q) + 1000 := Nat.le_trans (nextslicecap_le (by omega)) (by omega)
        obtain ⟨r, hr⟩ : ∃ r, r = Builtin.nextslicecap (n + q) cap := ⟨_, rfl⟩
        rw [← hr] at h1 ⊢
        have h2 : r * i.bytes ≤ r * 200 := Nat.mul_le_mul_left r hby
        omega)
    have hle : n + q ≤ grownCap w (n + q) cap e := Nat.le_add_right _ _
    refine ⟨_, _, _, hrun, ⟨?_, hle, _, heap_alloc_new _ _, ?_, ?_⟩, .inr ?_, ⟨rfl, rfl, rfl, ?_, fun k hk _ => heap_alloc_old _ _ hk⟩⟩
    · rw [List.length_append, h1, hnl, Nat.add_mul]
    · have hle2 : grownCap w (n + q) cap e = n + q + (grownCap w (n + q) cap e - (n + q)) := by omega
      rw [Array.size_append, size_zeroCells, hzs, List.size_toArray, List.length_append, h1, hnl]
      rw [hle2, Nat.add_mul, Nat.add_mul]
      simp
    · intro k hk
      rw [Array.getElem?_append_left (by simpa using hk)]
      simp
    · simp
    · simp [World.size_alloc]
/-- The first elements of a row, as a slice that can be read. -/
theorem VArg.first {sz : Nat} {w : World} {a : Option Addr} {cap n : Nat} {cs : List Value} (h : VArg sz w a cap n cs) (k : Nat) (hk : k ≤ n) : VArg sz w a cap k (cs.take (k * sz)) := by
  have hks : k * sz ≤ n * sz := Nat.mul_le_mul_right _ hk
  refine ⟨by rw [List.length_take, h.len]; omega, Nat.le_trans hk h.le, h.nil, fun u hu => h.one u (List.mem_of_mem_take hu), fun i hi => ?_⟩
  rw [List.length_take, h.len] at hi
  obtain ⟨b, h1, h2, h3⟩ := h.cell i (by rw [h.len]; omega)
  exact ⟨b, h1, h2, by rw [h3, List.getElem_take]⟩
/-- .. the ones behind a place. -/
theorem VArg.behind {sz : Nat} {w : World} {b cap n : Nat} {cs : List Value} (h : VArg sz w (some ⟨b, 0, none⟩) cap n cs) (k : Nat) (hk : k ≤ n) :
    VArg sz w (if cap = k then some ⟨b, 0, none⟩ else some ⟨b, k * sz, none⟩) (cap - k) (n - k) (cs.drop (k * sz)) := by
  have hle := h.le
  refine ⟨by rw [List.length_drop, h.len, Nat.sub_mul], by omega, (fun e => by split at e <;> cases e), fun u hu => h.one u (List.mem_of_mem_drop hu), fun i hi => ?_⟩
  rw [List.length_drop, h.len] at hi
  obtain ⟨b2, h1, h2, h3⟩ := h.cell (k * sz + i) (by rw [h.len]; omega)
  cases h1
  have hne : cap ≠ k := fun e => by
    have : n - k = 0 := by omega
    have : n * sz - k * sz = 0 := by rw [← Nat.sub_mul, this, Nat.zero_mul]
    omega
  refine ⟨_, if_neg hne, h2, ?_⟩
  rw [List.getElem_drop, ← h3]
  have e1 : (⟨b, 0, none⟩ : Addr).add (k * sz + i) = ⟨b, k * sz + i, none⟩ := add_head _ _
  have e2 : (⟨b, k * sz, none⟩ : Addr).add i = ⟨b, k * sz + i, none⟩ := by unfold Addr.add; split <;> simp_all
  rw [e1, e2]
/-- A slice that can be read, as what is appended. -/
theorem VArg.src {P : Program} {sz : Nat} {w : World} {a : Option Addr} {cap n : Nat} {cs : List Value} {t e : TypeId} (h : VArg sz w a cap n cs) (ht : P.underlying t = some (.slice e)) : Src P sz t (.slice a n cap) n cs w := by
  cases a with
  | none =>
    have h1 := h.nil rfl
    have h2 := h.le
    have hn : n = 0 := by omega
    subst hn
    have hcs : cs = [] := List.length_eq_zero_iff.1 (by rw [h.len, Nat.zero_mul])
    subst hcs
    exact Src.ofNil w ht cap
  | some ad =>
    refine Src.ofSlice _ ht ad n cap _ h.len (fun j u hj => ?_) h.one
    have hjl : j < cs.length := (List.getElem?_eq_some_iff.1 hj).1
    obtain ⟨b2, h1, h2, h3⟩ := h.cell j hjl
    cases h1
    rw [h3, ← hj, List.getElem?_eq_getElem hjl]
end Go.Proofs.Ytgjaennilkhejaa
