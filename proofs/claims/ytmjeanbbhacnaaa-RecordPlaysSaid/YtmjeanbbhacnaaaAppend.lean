/- 'append' of a text's bytes to a row of bytes that a slice owns, or to a nil slice: in place, or into a new row. The one bound: the new length is at most 2^40. -/
import Derived.Test.YtmjeanbbhacnaaaDisk
import Derived.Deep.Upon
import Derived.WalkKit
namespace Go.Proofs.Ytmjeanbbhacnaaa
open Go.RowKit
/-- Cells from o on, one by one. -/
def setMany (cs : Array Value) (o : Nat) : List Value → Array Value
  | [] => cs
  | v :: r => setMany (cs.setIfInBounds o v) (o + 1) r
theorem setMany_size (vs : List Value) : ∀ (cs : Array Value) (o : Nat), (setMany cs o vs).size = cs.size := by
  induction vs with
  | nil => intro cs o; rfl
  | cons v r ih => intro cs o; rw [setMany, ih, Array.size_setIfInBounds]
theorem setMany_lt (vs : List Value) : ∀ (cs : Array Value) (o i : Nat), i < o → (setMany cs o vs)[i]? = cs[i]? := by
  induction vs with
  | nil => intro cs o i _; rfl
  | cons v r ih => intro cs o i h; rw [setMany, ih _ _ _ (by omega), Array.getElem?_setIfInBounds, if_neg (by omega)]
theorem setMany_in (vs : List Value) : ∀ (cs : Array Value) (o i : Nat), o + vs.length ≤ cs.size → i < vs.length → (setMany cs o vs)[o + i]? = vs[i]? := by
  induction vs with
  | nil => intro cs o i _ h; simp at h
  | cons v r ih =>
    intro cs o i hl h
    simp only [List.length_cons] at hl h
    cases i with
    | zero =>
      show (setMany (cs.setIfInBounds o v) (o + 1) r)[o]? = some v
      rw [setMany_lt _ _ _ o (Nat.lt_succ_self o), Array.getElem?_setIfInBounds, if_pos rfl, if_pos (by omega)]
    | succ i => rw [setMany, show o + (i + 1) = o + 1 + i by omega, ih _ _ _ (by simp; omega) (by omega)]; simp
theorem setCells_block (b : Nat) (t : TypeId) (fr : Nat × Nat) (vs : List Value) : ∀ (w : World) (cs : Array Value) (o : Nat), w.heap[b]? = some (.cells cs t fr) → (w.setCells b o vs).heap[b]? = some (.cells (setMany cs o vs) t fr) := by
  induction vs with
  | nil => intro w cs o h; exact h
  | cons v r ih => intro w cs o h; exact ih _ _ _ (setCell_block v h)
theorem setCells_grown (w : World) (b o : Nat) (vs : List Value) : w.grownBy (w.setCells b o vs) (some b) := by
  induction vs generalizing w o with
  | nil => exact ⟨rfl, rfl, rfl, Nat.le_refl _, fun _ _ _ => rfl⟩
  | cons v r ih =>
    have h := ih (w.setCell ⟨b, o, none⟩ v) (o + 1)
    have hs : (w.setCell ⟨b, o, none⟩ v).heap.size = w.heap.size := by simp [World.setCell]
    exact ⟨h.os, h.tape, h.output, by have := h.size; rw [hs] at this; exact this, fun k hk hne => (h.block k (by rw [hs]; exact hk) hne).trans (setCell_other v (fun e => hne (by rw [e])))⟩
theorem byteCells_eq (s : ByteArray) : byteCells s = bcells s.data.toList := rfl
theorem info_byte : (Try.prog.info? 5).map (fun i => (i.zero, i.size, i.bytes)) = some (some (.int .u8 0), 1, 1) := by kernel_rfl
/-- What an append of bytes comes to, wherever they come from. -/
theorem run_append_bytes (w : World) (ty : TypeId) (gb : Option Nat) (cap : Nat) (bs : List UInt8) (hr : RowOk w gb cap bs) (tx : TypeId) (x : Value) (s : List UInt8) (hsrc : Src Try.prog 1 tx x s.length (bcells s) w) (hs : bs.length + s.length ≤ 1099511627776) :
    ∃ gb' cap' W, (Builtin.append_ #[51, tx] ty #[.slice (gb.map fun b => ⟨b, 0, none⟩) bs.length cap, x]).run Try.prog w = .ok (.slice (gb'.map fun b => ⟨b, 0, none⟩) (bs.length + s.length) cap') W ∧
      RowOk W gb' cap' (bs ++ s) ∧ (gb' = gb ∨ gb' = some w.heap.size) ∧ w.grownBy W gb := by
  obtain ⟨i, hi, hz, hsz, hby⟩ := info_parts info_byte
  have hlen : s.length = s.length := rfl
  rw [← hsz] at hsrc
  -- a new row
  have grow : cap < bs.length + s.length → (Builtin.firstCells i.size bs.length (.slice (gb.map fun b => ⟨b, 0, none⟩) bs.length cap)).run Try.prog w.drew = .ok (bcells bs).toArray w.drew →
      ∃ gb' cap' W, (Builtin.append_ #[51, tx] ty #[.slice (gb.map fun b => ⟨b, 0, none⟩) bs.length cap, x]).run Try.prog w = .ok (.slice (gb'.map fun b => ⟨b, 0, none⟩) (bs.length + s.length) cap') W ∧
        RowOk W gb' cap' (bs ++ s) ∧ (gb' = gb ∨ gb' = some w.heap.size) ∧ w.grownBy W gb := fun hg hold => by
    have hrun := run_append_grow_src w 51 tx ty 5 i (.int .u8 0) Try.underlying51 hi hz (gb.map fun b => ⟨b, 0, none⟩) bs.length cap (bcells bs) hold x s.length (bcells s) hsrc hg (by omega)
      (by rw [hby, Nat.mul_one]; exact Nat.le_trans (nextslicecap_le hg) (by omega))
    have hle : bs.length + s.length ≤ grownCap w (bs.length + s.length) cap 5 := Nat.le_add_right _ _
    refine ⟨some w.heap.size, _, _, hrun, ⟨_, (0, 0), heap_alloc_new w.drew _, ?_, ?_, ?_, ?_⟩, .inr rfl, ⟨rfl, rfl, rfl, ?_, fun k hk _ => heap_alloc_old w.drew _ hk⟩⟩
    · simp [Builtin.zeroCells, Value.cells, bcells_length]; omega
    · intro k _; simp
    · rw [List.length_append]; exact hle
    · intro k hk
      rw [← bcells_append]
      rw [Array.getElem?_append_left (by simpa [bcells_length] using hk)]
      simp
    · show w.heap.size ≤ (w.heap.push _).size
      simp
  cases gb with
  | none =>
    obtain ⟨rfl, rfl⟩ : bs = [] ∧ cap = 0 := hr
    by_cases h0 : s.length = 0
    · refine ⟨none, 0, w, ?_, ⟨?_, rfl⟩, .inl rfl, ⟨rfl, rfl, rfl, Nat.le_refl _, fun _ _ _ => rfl⟩⟩
      · have hc := hsrc.cells
        rw [h0] at hc
        rcases hsrc.kind with ⟨e', hk⟩ | hk <;> simp [Builtin.append_, run_underlying Try.underlying51, run_underlying hk, sizeOf, typeInfo, hi, hsrc.len, h0, hc]
      · rw [List.nil_append]
        exact List.length_eq_zero_iff.1 h0
    · exact grow (by simp; omega) (by simp [Builtin.firstCells, bcells])
  | some b =>
    obtain ⟨row, fr, hg, hsize, hf, hl, hrow⟩ : BRow w b cap 5 bs := hr
    have hcell : ∀ j u, (bcells bs)[j]? = some u → w.cell? ((⟨b, 0, none⟩ : Addr).add j) = some u := fun j u hj => by
      have hj' : j < bs.length := by
        rcases Nat.lt_or_ge j bs.length with h' | h'
        · exact h'
        · rw [List.getElem?_eq_none (by rw [bcells_length]; exact h')] at hj; cases hj
      rw [add_head, cell_of_row w b j row _ _ hg, hrow j hj']; exact hj
    by_cases hroom : bs.length + s.length ≤ cap
    · have hrun := run_append_room_src w 51 tx ty 5 i Try.underlying51 hi b 0 bs.length cap x s.length (bcells s) hsrc hroom
        (fun j hj => by
          rw [bcells_length] at hj
          rw [hsz, cell_of_row w b _ row _ _ hg, Array.getElem?_eq_getElem (by omega)]; rfl)
        (fun j hj => by
          rw [bcells_length] at hj
          have := hf (bs.length + j) (by omega)
          simp [World.frozen?, hg, hsz]; omega)
      rw [hsz, Nat.mul_one, Nat.zero_add] at hrun
      refine ⟨some b, cap, _, hrun, ⟨_, fr, setCells_block b _ fr _ w row bs.length hg, by rw [setMany_size]; exact hsize, hf, by rw [List.length_append]; exact hroom, ?_⟩, .inl rfl, setCells_grown w b _ _⟩
      intro k hk
      rw [bcells_append]
      by_cases hkb : k < bs.length
      · rw [setMany_lt _ _ _ _ hkb, hrow k hkb, List.getElem?_append_left (by rw [bcells_length]; exact hkb)]
      · rw [List.length_append] at hk
        have e : k = bs.length + (k - bs.length) := by omega
        rw [e, setMany_in _ _ _ _ (by rw [bcells_length, hsize]; exact hroom) (by rw [bcells_length]; omega), List.getElem?_append_right (by rw [bcells_length]; omega), bcells_length]
        rw [show bs.length + (k - bs.length) - bs.length = k - bs.length by omega]
    · exact grow (by omega) (run_firstCells_some w.drew i.size bs.length ⟨b, 0, none⟩ bs.length cap (bcells bs) (by rw [hsz, bcells_length, Nat.mul_one]) (by simpa using hcell))
/-- What an append of a text's bytes comes to. -/
theorem run_append_text (w : World) (ty : TypeId) (gb : Option Nat) (cap : Nat) (bs : List UInt8) (hr : RowOk w gb cap bs) (s : ByteArray) (hs : bs.length + s.size ≤ 1099511627776) :
    ∃ gb' cap' W, (Builtin.append_ #[51, 9] ty #[.slice (gb.map fun b => ⟨b, 0, none⟩) bs.length cap, .string s]).run Try.prog w = .ok (.slice (gb'.map fun b => ⟨b, 0, none⟩) (bs.length + s.size) cap') W ∧
      RowOk W gb' cap' (bs ++ s.data.toList) ∧ (gb' = gb ∨ gb' = some w.heap.size) ∧ w.grownBy W gb := by
  have hlen : s.size = s.data.toList.length := by rw [Array.length_toList]; rfl
  rw [hlen] at hs ⊢
  exact run_append_bytes w ty gb cap bs hr 9 (.string s) s.data.toList (by rw [← hlen]; exact Src.ofString w Try.underlying9 s) hs
/-- The first bytes of a row, as what is appended. -/
theorem RowOk.src {w : World} {gb : Option Nat} {cap : Nat} {bs : List UInt8} (h : RowOk w gb cap bs) (n c : Nat) (hn : n ≤ bs.length) : Src Try.prog 1 51 (.slice (gb.map fun b => ⟨b, 0, none⟩) n c) (bs.take n).length (bcells (bs.take n)) w := by
  have hln : (bs.take n).length = n := by rw [List.length_take]; omega
  cases gb with
  | none =>
    obtain ⟨rfl, _⟩ : bs = [] ∧ cap = 0 := h
    have : n = 0 := by simpa using hn
    subst this
    exact Src.ofNil w Try.underlying51 c
  | some b =>
    obtain ⟨row, fr, hg, hsize, hf, hl, hrow⟩ : BRow w b cap 5 bs := h
    rw [hln]
    refine Src.ofSlice w Try.underlying51 ⟨b, 0, none⟩ n c _ (by rw [bcells_length, hln, Nat.mul_one]) (fun j u hj => ?_) (fun u hu => ?_)
    · have hj' : j < n := by
        rcases Nat.lt_or_ge j n with h' | h'
        · exact h'
        · rw [List.getElem?_eq_none (by rw [bcells_length, hln]; exact h')] at hj; cases hj
      rw [add_head, cell_of_row w b j row _ _ hg, hrow j (by omega)]
      rw [← hj]
      simp [bcells, List.map_take, hj']
    · obtain ⟨_, _, rfl⟩ := List.mem_map.1 hu
      rfl
/-- An append whose run is known, at the operation. -/
theorem wpList_append_run {P : Program} {w : World} {ops : Array Oper} {rest : List Oper} {dst : Option Tmp} {ty : TypeId} {pos : String} {after : Array Edge} {a : Act} {Q : Exit → Act → World → Prop} (s x : Operand) (t tx : TypeId)
    (v sv v' : Value) (W : World) (hs : a.eval s = v) (hx : a.eval x = sv) (hrun : (Builtin.append_ #[t, tx] ty #[v, sv]).run P w = .ok v' W) (h : wpList P ops Q rest (a.put dst v') W) :
    wpList P ops Q ({ dst := dst, op := .call { callee := .builtin .append, args := #[s, x], argTypes := #[t, tx] }, type := ty, pos := pos, after := after, guard := none } :: rest) a w := by
  refine wpList_plain rfl fun K hK => ?_
  unfold Oper.wp
  rw [BigFrame.execOp_builtin, BigFrame.builtin_append]
  simp only [List.map_toArray, List.map_cons, List.map_nil, hs, hx, Sem.run_bind, hrun, Result.andThen_ok, Sem.run_pure]
  exact hK _ _ h
end Go.Proofs.Ytmjeanbbhacnaaa
