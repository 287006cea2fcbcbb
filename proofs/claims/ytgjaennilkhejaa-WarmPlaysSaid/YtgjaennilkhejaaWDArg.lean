/- A list of deeds that came in as an argument. No condition. -/
import Derived.Test.YtgjaennilkhejaaWPlays
import Derived.Test.YtgjaennilkhejaaWLArg
namespace Go.Proofs.Ytgjaennilkhejaa
open Go.RowKit Go.ChangeShapes Go.WideShapes Go.Joins Go.Deep
section
variable {H : Type} {enc : TypeId × Value → H} {w : World} {base : Nat} {spare : Nat → Bool} {held : Bool}
theorem deed_sizes : Try.prog.cellsOf 58 = 7 ∧ Try.prog.cellsOf 34 = 3 ∧ Try.prog.cellsOf 5 = 1 ∧ Try.prog.cellsOf 2 = 1 ∧ Try.prog.cellsOf 9 = 1 ∧ Try.prog.cellsOf 32 = 1 := by
  refine ⟨?_, ?_, ?_, ?_, ?_, ?_⟩ <;> kernel_rfl
theorem u8_bounds {z : Int} (h : (Lit.int .u8 z).wf = true) : 0 ≤ z ∧ z ≤ 255 := by
  simp only [Lit.wf, IntKind.min, IntKind.max, IntKind.signed, IntKind.bits, Bool.and_eq_true] at h
  simpa using h
/-- The cells of a log. -/
theorem open_logcells {n : Nat} {v0 v1 v2 : Value} {y : DataW H × List MemPlace} (h : DataW.trod enc Try.prog w base spare held n 34 [v0, v1, v2] = some y) (hw : ∀ z ∈ DataW.weights Try.prog 34 y.1, z ≤ reachBytes) : ∃ l, LogVals w v0 v1 v2 l := by
  obtain ⟨_, _, _, _, c1, c2⟩ := deed_sizes
  obtain ⟨ys, m, _, rfl, _, hyl, hf⟩ := DataW.trod_struct Try.underlying34 h
  match ys, hyl with
  | [y0, y1, y2], _ =>
    have h0 := hf 0 _ rfl
    have h1 := hf 1 _ rfl
    have h2 := hf 2 _ rfl
    simp only [List.getElem?_cons_zero, List.getElem?_cons_succ] at h0 h1 h2
    exact open_logvals h0 h1 h2 (fun z hz => hw z (by simp only [List.map_cons, List.map_nil, DataW.weights, Try.underlying34]; simp [DataW.weightsEach, hz]))
theorem open_deedsarg {b0 : Nat} {r : Reach} {v : Value} {d : DataW H} {p : List MemPlace} (hv : Value.okWide Try.prog w r b0 51 v) (h : DataW.Trod enc Try.prog w base spare held 51 v d p) (hw : ∀ y ∈ DataW.weights Try.prog 51 d, y ≤ reachBytes) : ∃ xs, DeedsArg w v xs := by
  obtain ⟨s7, s3, s1, s8, ss, _⟩ := deed_sizes
  obtain ⟨a0, len0, cap0, rfl⟩ := okWide_slice Try.underlying51 hv
  obtain ⟨fuel, hf⟩ := h
  rcases open_slice Try.underlying51 hf with ⟨hcs, _⟩ | ⟨a, len, cap, m, n, D, Pl, hcs, hb, hl, hm, hmm, hx, hi⟩
  · have e : (Value.slice a0 len0 cap0).cells.toList = [.slice a0 len0 cap0] := rfl
    have e2 := e.symm.trans hcs
    cases e2
    exact ⟨[], none, 0, 0, rfl, rfl, Nat.le_refl _, by omega, fun i hi => absurd hi (Nat.not_lt_zero _)⟩
  · have e : (Value.slice a0 len0 cap0).cells.toList = [.slice a0 len0 cap0] := rfl
    have e2 := e.symm.trans hcs
    cases e2
    have hlm : len0 ≤ m := by rw [hmm]; split <;> omega
    obtain ⟨xs, h1, h2⟩ := list_pick (fun i (u : Dd) => ∃ v4 v5 v6, w.cell? (a.add (i * 7)) = some (.int .u8 u.zk) ∧ w.cell? (a.add (i * 7 + 1)) = some (.int .u8 u.za) ∧ w.cell? (a.add (i * 7 + 2)) = some (.int .u8 u.zs) ∧ w.cell? (a.add (i * 7 + 3)) = some (.int .i64 u.n) ∧
      w.cell? (a.add (i * 7 + 4)) = some v4 ∧ w.cell? (a.add (i * 7 + 5)) = some v5 ∧ w.cell? (a.add (i * 7 + 6)) = some v6 ∧ LogVals w v4 v5 v6 u.l ∧ (0 ≤ u.zk ∧ u.zk ≤ 255) ∧ (0 ≤ u.za ∧ u.za ≤ 255) ∧ (0 ≤ u.zs ∧ u.zs ≤ 255)) len0 (fun i hil => by
      obtain ⟨cs', hc, ht⟩ := hi i (by omega)
      rw [s7] at hc
      obtain ⟨ys, n', _, hy, _, hyl, hf⟩ := DataW.trod_struct Try.underlying58 ht
      obtain ⟨_, hcl, hat⟩ := World.cells?_some hc
      match ys, hyl, cs', hcl with
      | [y0, y1, y2, y3, y4], _, [c0, c1, c2, c3, c4, c5, c6], _ =>
        have t0 := hf 0 _ rfl
        have t1 := hf 1 _ rfl
        have t2 := hf 2 _ rfl
        have t3 := hf 3 _ rfl
        have t4 := hf 4 _ rfl
        simp only [List.getElem?_cons_zero, List.getElem?_cons_succ] at t0 t1 t2 t3 t4
        have q0 := hat 0 (by omega)
        have q1 := hat 1 (by omega)
        have q2 := hat 2 (by omega)
        have q3 := hat 3 (by omega)
        have q4 := hat 4 (by omega)
        have q5 := hat 5 (by omega)
        have q6 := hat 6 (by omega)
        simp only [Go.Deep.add_add, List.getElem?_cons_zero, List.getElem?_cons_succ, Nat.add_zero] at q0 q1 q2 q3 q4 q5 q6
        obtain ⟨k0, e0, _, w0⟩ := DataW.trod_int Try.underlying5 t0
        obtain ⟨k1, e1, _, w1⟩ := DataW.trod_int Try.underlying5 t1
        obtain ⟨k2, e2, _, w2⟩ := DataW.trod_int Try.underlying5 t2
        obtain ⟨k3, e3, _, w3⟩ := DataW.trod_int Try.underlying2 t3
        cases e0; cases e1; cases e2; cases e3
        obtain ⟨l, hl⟩ := open_logcells t4 (fun z hz => hw z (by
          rw [show d = _ from congrArg Prod.fst hx]
          simp only [DataW.weights, Try.underlying51]
          refine List.mem_cons_of_mem _ (List.mem_append_left _ (weightsAll_mem (d := D i) (List.mem_map.2 ⟨i, List.mem_range.2 hil, rfl⟩) ?_))
          rw [show D i = _ from congrArg Prod.fst hy]
          simp only [List.map_cons, List.map_nil, DataW.weights, Try.underlying58]
          simp [DataW.weightsEach, hz]))
        exact ⟨⟨k0, k1, k2, k3, l⟩, c4, c5, c6, q0, q1, q2, q3, q4, q5, q6, hl, u8_bounds w0, u8_bounds w1, u8_bounds w2⟩)
    refine ⟨xs, some a, len0, cap0, rfl, h1, hl, by unfold maxLen at hm; omega, fun i hil => ?_⟩
    have h0 : 0 < xs.length := by omega
    obtain ⟨_, _, _, k0, _⟩ := h2 0 h0
    obtain ⟨bb, o, sp⟩ := a
    have hsp : sp = none := by
      have := spot_none k0
      rw [show (⟨bb, o, sp⟩ : Addr).add (0 * 7) = ⟨bb, o, sp⟩ from rfl] at this
      exact this
    subst hsp
    obtain ⟨v4, v5, v6, c0, c1, c2, c3, c4, c5, c6, ⟨rfl, ⟨ta, tc, rfl, hva⟩, rfl, hby⟩, b0, b1, b2⟩ := h2 i hil
    rw [add_plain] at c0 c1 c2 c3 c4 c5 c6
    exact ⟨bb, o, ta, tc, rfl, World.block_lt_of_cell? w ⟨bb, o + i * 7, none⟩ c0, c0, by rw [Nat.add_assoc]; exact c1, by rw [Nat.add_assoc]; exact c2, by rw [Nat.add_assoc]; exact c3, by rw [Nat.add_assoc]; exact c4, by rw [Nat.add_assoc]; exact c5, by rw [Nat.add_assoc]; exact c6, b0, b1, b2, hva, hby⟩
end
end Go.Proofs.Ytgjaennilkhejaa
