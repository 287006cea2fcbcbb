/- Rows of cells that a slice owns, what an append makes of them; maps of units, as keys in the order that they came in. The bound: at most 2^30 elements. -/
import Derived.Test.YtgjaennilkhejaaRows
import Derived.WalkKit
import Derived.OneCell
import Derived.WalkSpells
import Derived.WalkLawsBesides
import Derived.Lib.Hide
import Derived.Deep.Upon
import Derived.Deep.AppendSrc
import Derived.Maps.OwnSet
import Derived.DeepKeys4
import Derived.ProofKit
namespace Go.Proofs.Ytgjaennilkhejaa
open Go.RowKit
open Go.ChangeMaps (setBlock)
open Go.MapKept (IsKey run_checkKey run_findKey run_setObj_map findNow_spec heap_set run_getObj_map)
theorem add_head (g i : Nat) : (⟨g, 0, none⟩ : Addr).add i = ⟨g, i, none⟩ := by unfold Addr.add; split <;> simp_all
theorem setCell_block {w : World} {b i : Nat} {cs : Array Value} {t : TypeId} {fr : Nat × Nat} (v : Value) (h : w.heap[b]? = some (.cells cs t fr)) : (w.setCell ⟨b, i, none⟩ v).heap[b]? = some (.cells (cs.setIfInBounds i v) t fr) := by
  have hlt := lt_of_block h
  show (w.heap.modify b _)[b]? = _
  rw [Array.getElem?_eq_getElem (by simpa using hlt), Array.getElem_modify_self]
  rw [Array.getElem?_eq_getElem hlt] at h
  simp only [Option.some.injEq] at h
  rw [h]; simp
theorem setCell_other {w : World} {b i : Nat} (v : Value) {k : Nat} (h : k ≠ b) : (w.setCell ⟨b, i, none⟩ v).heap[k]? = w.heap[k]? := Below.heap_setCell w ⟨b, i, none⟩ v k h
/-- Cells from o on, one by one. -/
def setMany (cs : Array Value) (o : Nat) : List Value → Array Value
  | [] => cs
  | v :: r => setMany (cs.setIfInBounds o v) (o + 1) r
theorem setMany_size (vs : List Value) : ∀ (cs : Array Value) (o : Nat), (setMany cs o vs).size = cs.size := by
  induction vs with
  | nil => intro cs o; rfl
  | cons v r ih => intro cs o; rw [setMany, ih, Array.size_setIfInBounds]
theorem setMany_lt (vs : List Value) : ∀ (cs : Array Value) (o i : Nat), i < o → (setMany cs o vs)[i]? = cs[i]? := by
  induction vs with
  | nil => intro cs o i _; rfl
  | cons v r ih => intro cs o i h; rw [setMany, ih _ _ _ (by omega), Array.getElem?_setIfInBounds, if_neg (by omega)]
theorem setMany_in (vs : List Value) : ∀ (cs : Array Value) (o i : Nat), o + vs.length ≤ cs.size → i < vs.length → (setMany cs o vs)[o + i]? = vs[i]? := by
  induction vs with
  | nil => intro cs o i _ h; simp at h
  | cons v r ih =>
    intro cs o i hl h
    simp only [List.length_cons] at hl h
    cases i with
    | zero =>
      show (setMany (cs.setIfInBounds o v) (o + 1) r)[o]? = some v
      rw [setMany_lt _ _ _ o (Nat.lt_succ_self o), Array.getElem?_setIfInBounds, if_pos rfl, if_pos (by omega)]
    | succ i => rw [setMany, show o + (i + 1) = o + 1 + i by omega, ih _ _ _ (by simp; omega) (by omega)]; simp
theorem setCells_block (b : Nat) (t : TypeId) (fr : Nat × Nat) (vs : List Value) : ∀ (w : World) (cs : Array Value) (o : Nat), w.heap[b]? = some (.cells cs t fr) → (w.setCells b o vs).heap[b]? = some (.cells (setMany cs o vs) t fr) := by
  induction vs with
  | nil => intro w cs o h; exact h
  | cons v r ih => intro w cs o h; exact ih _ _ _ (setCell_block v h)
theorem setCells_grown (w : World) (b o : Nat) (vs : List Value) : w.grownBy (w.setCells b o vs) (some b) := by
  induction vs generalizing w o with
  | nil => exact ⟨rfl, rfl, rfl, Nat.le_refl _, fun _ _ _ => rfl⟩
  | cons v r ih =>
    have h := ih (w.setCell ⟨b, o, none⟩ v) (o + 1)
    have hs : (w.setCell ⟨b, o, none⟩ v).heap.size = w.heap.size := by simp [World.setCell]
    exact ⟨h.os, h.tape, h.output, by have := h.size; rw [hs] at this; exact this, fun k hk hne => (h.block k (by rw [hs]; exact hk) hne).trans (setCell_other v (fun e => hne (by rw [e])))⟩
/-! ### a row -/
/-- A slice's own row, or nil: n elements of sz cells each, the cells cs; capacity cap. -/
def VRow (e : TypeId) (sz : Nat) (w : World) (gb : Option Nat) (cap n : Nat) (cs : List Value) : Prop :=
  cs.length = n * sz ∧ n ≤ cap ∧ match gb with
  | none => cap = 0
  | some b => ∃ row, w.heap[b]? = some (.cells row e (0, 0)) ∧ row.size = cap * sz ∧ ∀ i, i < cs.length → row[i]? = cs[i]?
def VRow.val (gb : Option Nat) : Option Addr := gb.map fun b => ⟨b, 0, none⟩
section
variable {e : TypeId} {sz : Nat} {w w' : World} {gb : Option Nat} {cap n : Nat} {cs : List Value}
theorem VRow.kept (h : VRow e sz w gb cap n cs) (hb : ∀ b, gb = some b → w'.heap[b]? = w.heap[b]?) : VRow e sz w' gb cap n cs := by
  obtain ⟨h1, h2, h3⟩ := h
  refine ⟨h1, h2, ?_⟩
  cases gb with
  | none => exact h3
  | some b => obtain ⟨row, k1, k2⟩ := h3; exact ⟨row, (hb b rfl).trans k1, k2⟩
theorem VRow.lt {b : Nat} (h : VRow e sz w (some b) cap n cs) : b < w.heap.size := by
  obtain ⟨_, _, row, h3, _⟩ := h
  exact lt_of_block h3
theorem VRow.block {b : Nat} (h : VRow e sz w (some b) cap n cs) : ∃ row, w.heap[b]? = some (.cells row e (0, 0)) := by
  obtain ⟨_, _, row, h3, _⟩ := h
  exact ⟨row, h3⟩
theorem VRow.below (h : VRow e sz w gb cap n cs) (hb : Below w.heap.size w w') : VRow e sz w' gb cap n cs := h.kept fun b e => by subst e; exact hb.block _ h.lt
theorem VRow.nil (h : VRow e sz w none cap n cs) : cs = [] ∧ n = 0 ∧ cap = 0 := by
  obtain ⟨h1, h2, h3⟩ := h
  have h3' : cap = 0 := h3
  have hn : n = 0 := by omega
  subst hn
  exact ⟨List.length_eq_zero_iff.1 (by rw [h1, Nat.zero_mul]), rfl, h3'⟩
theorem VRow.cell (h : VRow e sz w gb cap n cs) (i : Nat) (hi : i < cs.length) : ∃ b, gb = some b ∧ w.cell? ⟨b, i, none⟩ = some (cs[i]) := by
  cases gb with
  | none => obtain ⟨rfl, _⟩ := h.nil; simp at hi
  | some b =>
    obtain ⟨_, _, row, h3, _, h4⟩ := h
    exact ⟨b, rfl, by rw [cell_of_row w b i row _ _ h3, h4 i hi, List.getElem?_eq_getElem hi]⟩
/-- Fewer elements. -/
theorem VRow.take (h : VRow e sz w gb cap n cs) {m : Nat} (hm : m ≤ n) : VRow e sz w gb cap m (cs.take (m * sz)) := by
  obtain ⟨h1, h2, h3⟩ := h
  have hms : m * sz ≤ n * sz := Nat.mul_le_mul_right _ hm
  refine ⟨by rw [List.length_take, h1]; omega, by omega, ?_⟩
  cases gb with
  | none => exact h3
  | some b =>
    obtain ⟨row, k1, k2, k3⟩ := h3
    refine ⟨row, k1, k2, fun i hi => ?_⟩
    rw [List.length_take] at hi
    rw [k3 i (by omega), List.getElem?_take_of_lt (by omega)]
end
/-- One element more. -/
theorem run_append_v {P : Program} (w : World) (t ty e : TypeId) (i : TypeInfo) (z : Value) (ht : P.underlying t = some (.slice e)) (hi : P.info? e = some i) (hz : i.zero = some z) (hzs : z.cells.size = i.size) (hby : i.bytes ≤ 100)
    (gb : Option Nat) (cap n : Nat) (cs : List Value) (hr : VRow e i.size w gb cap n cs) (x : Value) (news : List Value) (hsrc : Src P i.size t x 1 news w) (hn : n < 1073741824) :
    ∃ b' cap' W, (Builtin.append_ #[t, t] ty #[.slice (gb.map fun b => ⟨b, 0, none⟩) n cap, x]).run P w = .ok (.slice (some ⟨b', 0, none⟩) (n + 1) cap') W ∧
      VRow e i.size W (some b') cap' (n + 1) (cs ++ news) ∧ (gb = some b' ∨ w.heap.size ≤ b') ∧ w.grownBy W gb := by
  have hnl : news.length = i.size := by rw [hsrc.newsLen, Nat.one_mul]
  by_cases hroom : n < cap
  · cases gb with
    | none => obtain ⟨_, _, h3⟩ := hr.nil; omega
    | some b =>
      obtain ⟨h1, h2, row, h3, h4, h5⟩ := hr
      have hcap : (n + 1) * i.size ≤ cap * i.size := Nat.mul_le_mul_right _ hroom
      rw [Nat.succ_mul] at hcap
      have hrun := run_append_room_src w t t ty e i ht hi b 0 n cap x 1 news hsrc hroom (fun j hj => by
        rw [cell_of_row w b _ row _ _ h3, Array.getElem?_eq_getElem (by omega)]; rfl) (fun j hj => frozen_of_row w b _ _ _ h3)
      refine ⟨b, cap, _, hrun, ⟨?_, hroom, _, setCells_block b _ _ _ _ _ _ h3, ?_, ?_⟩, .inl rfl, setCells_grown _ _ _ _⟩
      · rw [List.length_append, h1, hnl, Nat.succ_mul]
      · rw [setMany_size, h4]
      · intro k hk
        rw [List.length_append, h1, hnl] at hk
        rw [Nat.zero_add]
        by_cases e1 : k < n * i.size
        · rw [setMany_lt _ _ _ _ e1, List.getElem?_append_left (by omega)]
          exact h5 k (by omega)
        · rw [List.getElem?_append_right (by omega), h1]
          have := setMany_in news row (n * i.size) (k - n * i.size) (by omega) (by omega)
          rw [show n * i.size + (k - n * i.size) = k by omega] at this
          exact this
  · have hold : (Builtin.firstCells i.size n (.slice (gb.map fun b => ⟨b, 0, none⟩) n cap)).run P w.drew = .ok cs.toArray w.drew := by
      cases gb with
      | none =>
        obtain ⟨rfl, rfl, rfl⟩ := hr.nil
        simp [Builtin.firstCells]
      | some b =>
        obtain ⟨h1, h2, row, h3, h4, h5⟩ := hr
        refine run_firstCells_some w.drew i.size n ⟨b, 0, none⟩ n cap cs h1 (fun j u hj => ?_)
        have hj' : j < cs.length := by
          rcases Nat.lt_or_ge j cs.length with h' | h'
          · exact h'
          · rw [List.getElem?_eq_none h'] at hj; cases hj
        rw [add_head, cell_of_row w.drew b j row _ _ h3, h5 j hj']
        exact hj
    have hnc : n = cap := by have := hr.2.1; omega
    have hrun := run_append_grow_src w t t ty e i z ht hi hz (gb.map fun b => ⟨b, 0, none⟩) n cap cs hold x 1 news hsrc (by omega) (by omega)
      (by
        have h1 : Builtin.nextslicecap (n + 1) cap ≤ 2 * (n + 1) + 1000 := Nat.le_trans (nextslicecap_le (by omega)) (by omega)
        obtain ⟨q, hq⟩ : ∃ q, q = Builtin.nextslicecap (n + 1) cap := ⟨_, rfl⟩
        rw [← hq] at h1 ⊢
        have h2 : q * i.bytes ≤ q * 100 := Nat.mul_le_mul_left q hby
        omega)
    have hle : n + 1 ≤ grownCap w (n + 1) cap e := Nat.le_add_right _ _
    refine ⟨_, _, _, hrun, ⟨?_, hle, _, heap_alloc_new _ _, ?_, ?_⟩, .inr ?_, ⟨rfl, rfl, rfl, ?_, fun k hk _ => heap_alloc_old _ _ hk⟩⟩
    · rw [List.length_append, hr.1, hnl, Nat.succ_mul]
    · have hle2 : grownCap w (n + 1) cap e = n + 1 + (grownCap w (n + 1) cap e - (n + 1)) := by omega
      rw [Array.size_append, size_zeroCells, hzs, List.size_toArray, List.length_append, hr.1, hnl]
      rw [hle2, Nat.add_mul, Nat.succ_mul]
      simp
    · intro k hk
      rw [Array.getElem?_append_left (by simpa using hk)]
      simp
    · simp
    · simp [World.size_alloc]
theorem wpList_append_run {P : Program} {w : World} {ops : Array Oper} {rest : List Oper} {dst : Option Tmp} {ty : TypeId} {pos : String} {after : Array Edge} {a : Act} {Q : Exit → Act → World → Prop} (s x : Operand) (t tx : TypeId)
    (v sv v' : Value) (W : World) (hs : a.eval s = v) (hx : a.eval x = sv) (hrun : (Builtin.append_ #[t, tx] ty #[v, sv]).run P w = .ok v' W) (h : wpList P ops Q rest (a.put dst v') W) :
    wpList P ops Q ({ dst := dst, op := .call { callee := .builtin .append, args := #[s, x], argTypes := #[t, tx] }, type := ty, pos := pos, after := after, guard := none } :: rest) a w := by
  refine wpList_plain rfl fun K hK => ?_
  unfold Oper.wp
  rw [BigFrame.execOp_builtin, BigFrame.builtin_append]
  simp only [List.map_toArray, List.map_cons, List.map_nil, hs, hx, Sem.run_bind, hrun, Result.andThen_ok, Sem.run_pure]
  exact hK _ _ h
end Go.Proofs.Ytgjaennilkhejaa
