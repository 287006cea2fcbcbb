/- A set and blocks that are none of its own: what the set's deeds leave of them. The bound: at most 10^6 changes. -/
import Derived.Test.YtgjaennilkhejaaWBackLaw
namespace Go.Proofs.Ytgjaennilkhejaa
open Go.RowKit
def One3 (W0 w : World) (s : Nat) (L : List Ch) (K : Nat → Prop) : Prop := ∃ F, At w s L F ∧ (∀ k, F k → W0.heap.size ≤ k) ∧ Below W0.heap.size W0 w ∧ ∀ k, K k → ¬ F k ∧ k < w.heap.size ∧ W0.heap.size ≤ k
section
variable {W0 w w' : World} {s : Nat} {L : List Ch} {K : Nat → Prop}
theorem One3.one (h : One3 W0 w s L K) : One W0 w s L := by
  obtain ⟨F, h1, h2, h3, _⟩ := h
  exact ⟨F, h1, h2, h3⟩
theorem One3.world (h : One3 W0 w s L K) : Below W0.heap.size W0 w := h.one.world
theorem One.three (h : One W0 w s L) : One3 W0 w s L (fun _ => False) := by
  obtain ⟨F, h1, h2, h3⟩ := h
  exact ⟨F, h1, h2, h3, fun k hk => hk.elim⟩
theorem One3.below (h : One3 W0 w s L K) (hb : Below w.heap.size w w') : One3 W0 w' s L K := by
  obtain ⟨F, h1, h2, h3, h4⟩ := h
  exact ⟨F, h1.below hb, h2, h3.trans (hb.mono h3.size), fun k hk => ⟨(h4 k hk).1, Nat.lt_of_lt_of_le (h4 k hk).2.1 hb.size, (h4 k hk).2.2⟩⟩
theorem One3.mono {K' : Nat → Prop} (h : One3 W0 w s L K) (hk : ∀ k, K' k → K k) : One3 W0 w s L K' := by
  obtain ⟨F, h1, h2, h3, h4⟩ := h
  exact ⟨F, h1, h2, h3, fun k h => h4 k (hk k h)⟩
/-- New blocks, and what is written in blocks that are kept apart: the set is as it was. K' may hold new blocks. -/
theorem One3.grown {K' : Nat → Prop} (h : One3 W0 w s L K) (hos : w'.os = w.os) (htp : w'.tape = w.tape) (hou : w'.output = w.output) (hsz : w.heap.size ≤ w'.heap.size) (hk : ∀ k, k < w.heap.size → ¬ K k → w'.heap[k]? = w.heap[k]?)
    (hK : ∀ k, K' k → K k ∨ (w.heap.size ≤ k ∧ k < w'.heap.size)) : One3 W0 w' s L K' := by
  obtain ⟨F, h1, h2, h3, h4⟩ := h
  refine ⟨F, h1.kept fun k hf => hk k (h1.lt hf) fun hKk => (h4 k hKk).1 hf, h2, ?_, fun k hk' => ?_⟩
  · exact h3.trans ⟨hos, htp, hou, hsz, fun k hlt => hk k (by have := h3.size; omega) fun hKk => by have := (h4 k hKk).2.2; omega⟩
  · rcases hK k hk' with r | r
    · exact ⟨(h4 k r).1, Nat.lt_of_lt_of_le (h4 k r).2.1 hsz, (h4 k r).2.2⟩
    · exact ⟨fun hf => by have := h1.lt hf; omega, r.2, by have := h3.size; omega⟩
theorem Calls.one3 {L' : List Ch} {f : FuncId} {args : Array Value} {E : Ending → Prop} (h : One3 W0 w s L K) (hc : ∀ F, At w s L F → Calls Try.prog f args w fun e w' => E e ∧ Turns w s F L' w') :
    Calls Try.prog f args w fun e w' => E e ∧ One3 W0 w' s L' K ∧ ∀ k, K k → w'.heap[k]? = w.heap[k]? := by
  obtain ⟨F, h1, h2, h3, h4⟩ := h
  refine (hc F h1).mono ?_
  rintro e w' ⟨he, F', ht, hE⟩
  obtain ⟨k1, k2⟩ := hE.low h2 h3
  refine ⟨he, ⟨F', ht, k1, k2, fun k hk => ⟨fun hf => ?_, Nat.lt_of_lt_of_le (h4 k hk).2.1 hE.size, (h4 k hk).2.2⟩⟩, fun k hk => hE.keep k (h4 k hk).2.1 (h4 k hk).1⟩
  rcases hE.sub k hf with r | r
  · exact (h4 k hk).1 r
  · have := (h4 k hk).2.1; omega
theorem addr_k (h : One3 W0 w s L K) (a : ByteArray) (hlen : L.length < 1000000) :
    Calls Try.prog 14 #[.pointer (some ⟨s, 0, none⟩), .string a] w fun e w' => e = .returned (.bool (hasK 0 (.string a) L)) ∧ One3 W0 w' s (noteL 0 (.string a) L) K ∧ ∀ k, K k → w'.heap[k]? = w.heap[k]? := Calls.one3 h fun F hF => by
  obtain ⟨g, gs, hC, rfl, rfl⟩ := hF
  exact addr_c hC a (by simpa [absL] using hlen)
theorem gone_k (h : One3 W0 w s L K) (a : ByteArray) (hlen : L.length < 1000000) :
    Calls Try.prog 19 #[.pointer (some ⟨s, 0, none⟩), .string a] w fun e w' => e = .returned (.tuple #[]) ∧ One3 W0 w' s (noteL 3 (.string a) L) K ∧ ∀ k, K k → w'.heap[k]? = w.heap[k]? := Calls.one3 h fun F hF => by
  obtain ⟨g, gs, hC, rfl, rfl⟩ := hF
  exact gone_c hC a (by simpa [absL] using hlen)
theorem log_k (h : One3 W0 w s L K) (l : Lg) (a : Option Addr) (cap : Nat) (hv : VArg 4 w a cap l.topics.length (W4s l.topics)) (hby : l.topics.length * 32 ≤ 281474976710656) (hlen : L.length < 1000000) :
    Calls Try.prog 15 #[.pointer (some ⟨s, 0, none⟩), .agg #[.string l.addr, .slice a l.topics.length cap, .string l.data]] w fun e w' => e = .returned (.tuple #[]) ∧ One3 W0 w' s (L ++ [.log l]) K ∧ ∀ k, K k → w'.heap[k]? = w.heap[k]? := Calls.one3 h fun F hF => by
  obtain ⟨g, gs, hC, rfl, rfl⟩ := hF
  exact log_c hC l a cap hv hby (by simpa [absL] using hlen)
theorem back_k (h : One3 W0 w s L K) (m : Nat) (hm : m ≤ L.length) (hlen : L.length < 1000000) :
    Calls Try.prog 20 #[.pointer (some ⟨s, 0, none⟩), .int .i64 (m : Int)] w fun e w' => e = .returned (.bool true) ∧ One3 W0 w' s (L.take m) K ∧ ∀ k, K k → w'.heap[k]? = w.heap[k]? := Calls.one3 h fun F hF => by
  obtain ⟨g, gs, hC, rfl, rfl⟩ := hF
  exact back_ok hC m (by simpa [absL] using hm) (by simpa [absL] using hlen)
end
theorem info_int : (Try.prog.info? 3).map (fun i => (i.zero, i.size, i.bytes)) = some (some (.int .i64 0), 1, 8) := by kernel_rfl
/-- One number more. -/
theorem run_append_int (w : World) (ty : TypeId) (gb : Option Nat) (cap n : Nat) (cs : List Value) (hr : VRow 3 1 w gb cap n cs) (v : Int) (hn : n < 1000000) :
    ∃ b' cap' W, (Builtin.append_ #[40, 40] ty #[.slice (gb.map fun b => ⟨b, 0, none⟩) n cap, .slice (some ⟨w.heap.size, 0, none⟩) 1 1]).run Try.prog (w.alloc (.cells #[.int .i64 v] 3 (0, 0))) = .ok (.slice (some ⟨b', 0, none⟩) (n + 1) cap') W ∧
      VRow 3 1 W (some b') cap' (n + 1) (cs ++ [.int .i64 v]) ∧ (gb = some b' ∨ w.heap.size ≤ b') ∧ (w.alloc (.cells #[.int .i64 v] 3 (0, 0))).grownBy W gb := by
  obtain ⟨i, hi, hz, hsz, hby⟩ := info_parts info_int
  obtain ⟨w1, hw1⟩ : ∃ w1, w1 = w.alloc (.cells #[.int .i64 v] 3 (0, 0)) := ⟨_, rfl⟩
  have hbel : Below w.heap.size w w1 := by rw [hw1]; exact (Below.refl _ _).alloc (Nat.le_refl _) _
  have hsrc : Src Try.prog i.size 40 (.slice (some ⟨w.heap.size, 0, none⟩) 1 1) 1 [.int .i64 v] w1 := by
    rw [hw1, hsz]
    exact src_row w _ _ Try.underlying40 [.int .i64 v] (fun u hu => by rw [List.mem_singleton.1 hu]; rfl) 1 rfl _ rfl 1
  obtain ⟨b', cap', W, r1, r2, r3, r4⟩ := run_append_v w1 40 ty 3 i _ Try.underlying40 hi hz (by rw [hsz]; rfl) (by omega) gb cap n cs (by rw [hsz]; exact hr.below hbel) _ _ hsrc (by omega)
  rw [hsz] at r2
  rw [← hw1]
  refine ⟨b', cap', W, r1, r2, ?_, r4⟩
  rcases r3 with r | r
  · exact .inl r
  · exact .inr (by rw [hw1, World.size_alloc] at r; omega)
/-- A slice of bytes that came in, as numbers. -/
def BytesArg (w : World) (v : Value) (zs : List Int) : Prop :=
  ∃ (a : Option Addr) (len cap : Nat), v = .slice a len cap ∧ zs.length = len ∧ len ≤ cap ∧ (cap : Int) ≤ 9223372036854775807 ∧ ∀ i (h : i < zs.length), ∃ b o, a = some ⟨b, o, none⟩ ∧ b < w.heap.size ∧ w.cell? ⟨b, o + i, none⟩ = some (.int .u8 zs[i]) ∧ 0 ≤ zs[i] ∧ zs[i] ≤ 255
open Go.ChangeShapes Go.WideShapes in
theorem open_bytesarg {H : Type} {enc : TypeId × Value → H} {w : World} {base b0 : Nat} {spare : Nat → Bool} {held : Bool} {r : Reach} {v : Value} {d : DataW H} {p : List MemPlace} (hv : Value.okWide Try.prog w r b0 39 v)
    (h : DataW.Trod enc Try.prog w base spare held 39 v d p) : ∃ zs, BytesArg w v zs := by
  obtain ⟨a0, len0, cap0, rfl⟩ := okWide_slice Try.underlying39 hv
  obtain ⟨fuel, hf⟩ := h
  rcases Go.ChangeShapes.open_ints Try.underlying39 Try.underlying5 (by kernel_rfl) hf with ⟨hcs, _⟩ | ⟨a, len, cap, zs, hcs, _, hl, hm, hz, _, hcell, hwf⟩
  · have e : (Value.slice a0 len0 cap0).cells.toList = [.slice a0 len0 cap0] := rfl
    have e2 := e.symm.trans hcs
    cases e2
    exact ⟨[], none, 0, 0, rfl, rfl, Nat.le_refl _, by omega, fun i hi => absurd hi (Nat.not_lt_zero _)⟩
  · have e : (Value.slice a0 len0 cap0).cells.toList = [.slice a0 len0 cap0] := rfl
    have e2 := e.symm.trans hcs
    cases e2
    have hle : len0 ≤ zs.length := by rw [hz]; split <;> omega
    refine ⟨zs.take len0, some a, len0, cap0, rfl, by rw [List.length_take]; omega, hl, by unfold maxLen at hm; omega, fun i hi => ?_⟩
    rw [List.length_take] at hi
    have hil : i < zs.length := by omega
    have c0 := hcell i hil
    have c00 := hcell 0 (by omega)
    obtain ⟨bb, o, sp⟩ := a
    have hsp : sp = none := by
      have := spot_none c00
      rw [show (⟨bb, o, sp⟩ : Addr).add 0 = ⟨bb, o, sp⟩ from rfl] at this
      exact this
    subst hsp
    rw [add_plain, List.getD_eq_getElem?_getD, List.getElem?_eq_getElem hil] at c0
    obtain ⟨z, hz2⟩ : ∃ z, z = zs[i]'hil := ⟨_, rfl⟩
    have hw := hwf z (by rw [hz2]; exact List.getElem_mem _)
    have hb : 0 ≤ z ∧ z ≤ 255 := by
      simp only [Lit.wf, IntKind.min, IntKind.max, IntKind.signed, IntKind.bits, Bool.and_eq_true, decide_eq_true_eq] at hw
      simpa using hw
    refine ⟨bb, o, rfl, World.block_lt_of_cell? w ⟨bb, o + i, none⟩ c0, ?_, ?_⟩
    · rw [c0, List.getElem_take]; rfl
    · rw [List.getElem_take, ← hz2]; exact hb
end Go.Proofs.Ytgjaennilkhejaa
