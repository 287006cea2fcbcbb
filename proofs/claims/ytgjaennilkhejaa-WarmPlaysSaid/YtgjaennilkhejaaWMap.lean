/- Maps of units, as keys in the order that they came in: what a lookup answers, what a store of a new key and a delete of the last one leave. No condition. -/
import Derived.Test.YtgjaennilkhejaaWRow
namespace Go.Proofs.Ytgjaennilkhejaa
open Go.RowKit
open Go.ChangeMaps (setBlock)
open Go.MapKept (IsKey run_checkKey run_findKey run_setObj_map findNow_spec heap_set)
structure Keys (P : Program) (T K E : TypeId) (ok : Value → Prop) : Prop where
  und : P.underlying T = some (.map K E)
  zero : ∀ w : World, (zeroValue E).run P w = .ok (.agg #[]) w
  check : ∀ (w : World) (em : Bool) {v : Value}, ok v → (Instr.checkKey em 10000 K v).run P w = .ok () w
  find : ∀ (w : World) {x : Value}, ok x → ∀ es : List MapEntry, (∀ e ∈ es, ok e.key) →
    ((Instr.findKey K x es).run P w = .ok none w ∧ ∀ e ∈ es, e.key ≠ x) ∨ ∃ j e, (Instr.findKey K x es).run P w = .ok (some (j, e.val)) w ∧ es[j]? = some e ∧ e.key = x
def UMap (w : World) (b : Nat) (ks : List Value) : Prop :=
  ∃ es clock, w.heap[b]? = some (.map es clock) ∧ es.toList.map (·.key) = ks ∧ (∀ e ∈ es.toList, e.val = .agg #[]) ∧ (∀ e ∈ es.toList, e.born < clock) ∧ (es.toList.map (·.born)).Nodup
theorem UMap.kept {w w' : World} {b : Nat} {ks : List Value} (h : UMap w b ks) (hb : w'.heap[b]? = w.heap[b]?) : UMap w' b ks := by
  obtain ⟨es, clock, h1, r⟩ := h
  exact ⟨es, clock, hb.trans h1, r⟩
theorem UMap.block {w : World} {b : Nat} {ks : List Value} (h : UMap w b ks) : ∃ es clock, w.heap[b]? = some (.map es clock) := by
  obtain ⟨es, clock, h1, _⟩ := h
  exact ⟨es, clock, h1⟩
theorem UMap.lt {w : World} {b : Nat} {ks : List Value} (h : UMap w b ks) : b < w.heap.size := by
  obtain ⟨es, clock, h1, _⟩ := h
  exact lt_of_block h1
/-- W is w, but for block b. -/
structure But (w W : World) (b : Nat) : Prop where
  os : W.os = w.os
  tape : W.tape = w.tape
  output : W.output = w.output
  size : W.heap.size = w.heap.size
  block : ∀ k, k ≠ b → W.heap[k]? = w.heap[k]?
section
variable {P : Program} {T K E : TypeId} {ok : Value → Prop} {w : World} {b : Nat} {ks : List Value} {k : Value}
theorem UMap.has (Kk : Keys P T K E ok) (h : UMap w b ks) (hk : ∀ x ∈ ks, ok x) (ho : ok k) (hin : k ∈ ks) : (Instr.lookup T (.map (some b)) k true).run P w = .ok (.tuple #[.agg #[], .bool true]) w := by
  obtain ⟨es, clock, h1, h2, h3, _⟩ := h
  have hes : ∀ e ∈ es.toList, ok e.key := fun e he => hk _ (by rw [← h2]; exact List.mem_map_of_mem he)
  rcases Kk.find w ho es.toList hes with ⟨_, hne⟩ | ⟨j, e, hf, hj, he⟩
  · rw [← h2] at hin
    obtain ⟨e, he, hek⟩ := List.mem_map.1 hin
    exact absurd hek (hne e he)
  · have hv := h3 e (List.mem_of_getElem? hj)
    rw [hv] at hf
    simp [Instr.lookup, run_underlying Kk.und, MapKept.run_getObj_map h1, Kk.check w _ ho, hf, Result.andThen]
theorem UMap.hasnt (Kk : Keys P T K E ok) (h : UMap w b ks) (hk : ∀ x ∈ ks, ok x) (ho : ok k) (hin : k ∉ ks) : (Instr.lookup T (.map (some b)) k true).run P w = .ok (.tuple #[.agg #[], .bool false]) w := by
  obtain ⟨es, clock, h1, h2, h3, _⟩ := h
  have hes : ∀ e ∈ es.toList, ok e.key := fun e he => hk _ (by rw [← h2]; exact List.mem_map_of_mem he)
  rcases Kk.find w ho es.toList hes with ⟨hf, _⟩ | ⟨j, e, hf, hj, he⟩
  · simp [Instr.lookup, run_underlying Kk.und, MapKept.run_getObj_map h1, Kk.check w _ ho, hf, Kk.zero, Result.andThen]
  · exact absurd (by rw [← h2, ← he]; exact List.mem_map_of_mem (List.mem_of_getElem? hj)) hin
theorem UMap.put (Kk : Keys P T K E ok) (h : UMap w b ks) (hk : ∀ x ∈ ks, ok x) (ho : ok k) (hin : k ∉ ks) :
    ∃ W, (Instr.mapUpdate T (.map (some b)) k (.agg #[])).run P w = .ok () W ∧ UMap W b (ks ++ [k]) ∧ But w W b := by
  obtain ⟨es, clock, h1, h2, h3, h4, h5⟩ := h
  have hes : ∀ e ∈ es.toList, ok e.key := fun e he => hk _ (by rw [← h2]; exact List.mem_map_of_mem he)
  rcases Kk.find w ho es.toList hes with ⟨hf, _⟩ | ⟨j, e, hf, hj, he⟩
  · have hrun : (Instr.mapUpdate T (.map (some b)) k (.agg #[])).run P w = .ok () { w with heap := w.heap.setIfInBounds b (.map (es.push { key := k, val := .agg #[], born := clock }) (clock + 1)) } := by
      simp [Instr.mapUpdate, run_underlying Kk.und, MapKept.run_getObj_map h1, Kk.check w _ ho, hf, run_setObj_map _ h1, Result.andThen]
    refine ⟨_, hrun, ⟨_, _, (heap_set h1).1, ?_, ?_, ?_, ?_⟩, rfl, rfl, rfl, by simp, (heap_set h1).2⟩
    · simp [← h2]
    · intro x hx
      simp only [Array.toList_push, List.mem_append, List.mem_singleton] at hx
      rcases hx with hx | rfl
      · exact h3 x hx
      · rfl
    · intro x hx
      simp only [Array.toList_push, List.mem_append, List.mem_singleton] at hx
      rcases hx with hx | rfl
      · exact Nat.lt_succ_of_lt (h4 x hx)
      · exact Nat.lt_succ_self _
    · simp only [Array.toList_push, List.map_append, List.map_cons, List.map_nil]
      refine List.nodup_append.2 ⟨h5, by simp, ?_⟩
      intro a ha c hc
      simp only [List.mem_singleton] at hc
      subst hc
      obtain ⟨x, hx, rfl⟩ := List.mem_map.1 ha
      exact Nat.ne_of_lt (h4 x hx)
  · exact absurd (by rw [← h2, ← he]; exact List.mem_map_of_mem (List.mem_of_getElem? hj)) hin
theorem UMap.del (Kk : Keys P T K E ok) (h : UMap w b (ks ++ [k])) (hk : ∀ x ∈ ks, ok x) (ho : ok k) (hin : k ∉ ks) (ty : TypeId) :
    ∃ W, (Builtin.delete_ #[T, K] ty #[.map (some b), k]).run P w = .ok (.tuple #[]) W ∧ UMap W b ks ∧ But w W b := by
  obtain ⟨es, clock, h1, h2, h3, h4, h5⟩ := h
  have hok : ∀ x ∈ ks ++ [k], ok x := fun x hx => by
    rcases List.mem_append.1 hx with hx | hx
    · exact hk x hx
    · rw [List.mem_singleton.1 hx]; exact ho
  have hes : ∀ e ∈ es.toList, ok e.key := fun e he => hok _ (by rw [← h2]; exact List.mem_map_of_mem he)
  have hlen : es.toList.length = ks.length + 1 := by have := congrArg List.length h2; simpa using this
  rcases Kk.find w ho es.toList hes with ⟨_, hne⟩ | ⟨j, e, hf, hj, he⟩
  · have hin2 : k ∈ es.toList.map (·.key) := by rw [h2]; simp
    obtain ⟨e, he, hek⟩ := List.mem_map.1 hin2
    exact absurd hek (hne e he)
  · have hjl : j < es.toList.length := (List.getElem?_eq_some_iff.1 hj).1
    have hjk : (es.toList.map (·.key))[j]? = some k := by rw [List.getElem?_map, hj]; simp [he]
    rw [h2] at hjk
    have hjn : j = ks.length := by
      rcases Nat.lt_or_ge j ks.length with hlt | hge
      · rw [List.getElem?_append_left hlt] at hjk
        exact absurd (List.mem_of_getElem? hjk) hin
      · omega
    have hrun : (Builtin.delete_ #[T, K] ty #[.map (some b), k]).run P w = .ok (.tuple #[]) { w with heap := w.heap.setIfInBounds b (.map (es.eraseIdxIfInBounds j) clock) } := by
      simp [Builtin.delete_, run_underlying Kk.und, MapKept.run_getObj_map h1, Kk.check w _ ho, hf, run_setObj_map _ h1, Result.andThen]
    have hsub : (es.eraseIdxIfInBounds j).toList = es.toList.eraseIdx j := by
      unfold Array.eraseIdxIfInBounds
      rw [dif_pos (by simpa using hjl), Array.toList_eraseIdx]
    have hs : (es.toList.eraseIdx j).Sublist es.toList := List.eraseIdx_sublist _ _
    refine ⟨_, hrun, ⟨_, _, (heap_set h1).1, ?_, ?_, ?_, ?_⟩, rfl, rfl, rfl, by simp, (heap_set h1).2⟩
    · rw [hsub, List.eraseIdx_eq_take_drop_succ, List.drop_eq_nil_of_le (by omega), List.append_nil, List.map_take, h2, hjn]
      simp
    · rw [hsub]; exact fun x hx => h3 x (hs.subset hx)
    · rw [hsub]; exact fun x hx => h4 x (hs.subset hx)
    · rw [hsub]; exact (hs.map _).nodup h5
end
/-! ### the two kinds of keys -/
def StrOk (v : Value) : Prop := ∃ s, v = .string s
theorem unit_zero (w : World) : (zeroValue 69).run Try.prog w = .ok (.agg #[]) w := by kernel_rfl
theorem str_keys : Keys Try.prog 60 9 69 StrOk := by
  refine ⟨Try.underlying60, unit_zero, ?_, ?_⟩
  · rintro w em v ⟨s, rfl⟩
    exact MapKept.run_checkKey (d := .string) (k := .string s) Try.underlying9 trivial em 9999
  · rintro w x ⟨s, rfl⟩ es hes
    have hks : ∀ y ∈ es, IsKey .string y.key := fun y hy => by
      obtain ⟨t, ht⟩ := hes y hy
      rw [ht]; trivial
    rcases findNow_spec (d := .string) (k := .string s) trivial es 0 hks with ⟨h1, h2⟩ | ⟨j, e0, h1, h2, h3⟩
    · exact .inl ⟨run_findKey Try.underlying9 h1, h2⟩
    · exact .inr ⟨j, e0, by simpa using run_findKey (w := w) (P := Try.prog) Try.underlying9 h1, h2, h3⟩
theorem laid_out' : laidOutB Try.prog = true := by kernel_rfl
theorem slot_law : WideMaps.KeyLaw Try.prog 67 := deep_law_laid laid_out' (m := 4) (by omega) (of_decide_eq_true (by kernel_rfl)) (by kernel_rfl) (by kernel_rfl)
/-- A word, a slot. -/
structure W4 where
  a : Int
  b : Int
  c : Int
  d : Int
def W4.cells (k : W4) : List Value := [.int .u64 k.a, .int .u64 k.b, .int .u64 k.c, .int .u64 k.d]
def W4.val (k : W4) : Value := .agg #[.int .u64 k.a, .int .u64 k.b, .int .u64 k.c, .int .u64 k.d]
def W4.wf (k : W4) : Prop := (Lit.int .u64 k.a).wf = true ∧ (Lit.int .u64 k.b).wf = true ∧ (Lit.int .u64 k.c).wf = true ∧ (Lit.int .u64 k.d).wf = true
def slotV (a : ByteArray) (k : W4) : Value := .agg #[.string a, .int .u64 k.a, .int .u64 k.b, .int .u64 k.c, .int .u64 k.d]
def SlotOk (v : Value) : Prop := (∃ a k, v = slotV a k) ∧ ∃ l, keyOf Try.prog 67 v = some l
theorem slot_keys : Keys Try.prog 61 67 69 SlotOk := by
  refine ⟨Try.underlying61, unit_zero, ?_, ?_⟩
  · rintro w em v ⟨_, l, h⟩
    exact slot_law.check w em h
  · rintro w x ⟨_, l, h⟩ es hes
    exact slot_law.find w h es fun e he => (hes e he).2
theorem slotV_inj {a b : ByteArray} {k m : W4} (h : slotV a k = slotV b m) : a = b ∧ k = m := by
  cases k; cases m
  simp [slotV] at h
  simp [h]
theorem slot_cells : Try.prog.cellsOf 67 = 5 ∧ Try.prog.cellsOf 24 = 4 ∧ Try.prog.cellsOf 9 = 1 ∧ Try.prog.cellsOf 22 = 1 := by
  refine ⟨?_, ?_, ?_, ?_⟩ <;> kernel_rfl
theorem slot_ok {a : ByteArray} {k : W4} (ha : a.size ≤ maxLen) (hk : k.wf) : SlotOk (slotV a k) := by
  obtain ⟨k1, k2, k3, k4⟩ := hk
  obtain ⟨c1, c2, c3, c4⟩ := slot_cells
  have hkt : Try.prog.keyType 67 = true := by kernel_rfl
  obtain ⟨m, hm⟩ : ∃ m, Try.prog.types.size = m + 2 := ⟨_, Eq.symm (Nat.sub_add_cancel (of_decide_eq_true (by kernel_rfl)))⟩
  refine ⟨⟨a, k, rfl⟩, .string (keyBytes [.string a.data.toList, .int .u64 k.a, .int .u64 k.b, .int .u64 k.c, .int .u64 k.d]), ?_⟩
  unfold keyOf
  simp only [Try.underlying67]
  rw [if_pos (by simp [hkt, Value.formed, Try.underlying67, c1, slotV]), hm]
  simp [Program.keyLits, Try.underlying67, Try.underlying24, Try.underlying9, Try.underlying22, c1, c2, c3, c4, slotV, Value.cells, ha, k1, k2, k3, k4]
  rw [if_pos (by decide)]
  rfl
end Go.Proofs.Ytgjaennilkhejaa
