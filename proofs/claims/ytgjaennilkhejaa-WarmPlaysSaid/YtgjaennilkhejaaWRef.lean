/- The reference's set of chapter 11 in memory, as its changes tell it; what a change more, and a cut, leave. The bound: at most 10^6 changes. -/
import Derived.Test.YtgjaennilkhejaaWLogsLaw
namespace Go.Proofs.Ytgjaennilkhejaa
open Go.RowKit
/-- A change in the reference's row. -/
inductive R where
  | key (f : Fin 4) (a : ByteArray) (k : W4)
  | refund (n : Int)
  | log (l : Lg) (tb : Option Nat) (tc : Nat)
def kd (f : Fin 4) : Int := if f = 0 then 1 else if f = 1 then 2 else if f = 2 then 3 else 6
def wz : W4 := ⟨0, 0, 0, 0⟩
def keyV (f : Fin 4) (a : ByteArray) (k : W4) : Value := if f = 1 then slotV a k else .string a
def R.abs : R → Ch
  | .key f a k => .key f (keyV f a k)
  | .refund n => .refund n
  | .log l _ _ => .log l
def R.kind : R → Int
  | .key f _ _ => kd f
  | .refund _ => 4
  | .log _ _ _ => 5
def R.addr : R → ByteArray
  | .key _ a _ => a
  | _ => ⟨#[]⟩
def R.word : R → W4
  | .key _ _ k => k
  | _ => wz
def R.num : R → Int
  | .refund n => n
  | _ => 0
def R.lg : R → Lg
  | .log l _ _ => l
  | _ => ⟨⟨#[]⟩, [], ⟨#[]⟩⟩
def R.tb : R → Option Nat
  | .log _ tb _ => tb
  | _ => none
def R.tc : R → Nat
  | .log _ _ tc => tc
  | _ => 0
def R.cells (r : R) : List Value := [.int .i64 r.kind, .string r.addr, .int .u64 r.word.a, .int .u64 r.word.b, .int .u64 r.word.c, .int .u64 r.word.d, .int .i64 r.num, .string r.lg.addr, .slice (r.tb.map fun b => ⟨b, 0, none⟩) r.lg.topics.length r.tc, .string r.lg.data]
theorem R.cells_one (r : R) : ∀ u ∈ r.cells, u.oneCell' = true := by
  intro u hu
  simp only [R.cells, List.mem_cons, List.not_mem_nil, or_false] at hu
  rcases hu with rfl | rfl | rfl | rfl | rfl | rfl | rfl | rfl | rfl | rfl <;> rfl
/-- What a change in the row is good for. -/
def R.ok (w : World) : R → Prop
  | .key f _ k => f = 1 ∨ k = wz
  | .refund _ => True
  | .log l tb tc => VRow 24 4 w tb tc l.topics.length (W4s l.topics)
def R.foot (r : R) (k : Nat) : Prop := r.tb = some k
theorem R.ok.kept {w w' : World} {r : R} (h : r.ok w) (hk : ∀ k, r.foot k → w'.heap[k]? = w.heap[k]?) : r.ok w' := by
  cases r with
  | key f a k => exact h
  | refund n => exact h
  | log l tb tc => exact VRow.kept h fun b e => hk b e
theorem R.ok.tag {w : World} {r : R} (h : r.ok w) {k : Nat} (hk : r.foot k) : ∃ row, w.heap[k]? = some (.cells row 24 (0, 0)) := by
  cases r with
  | key f a x => cases hk
  | refund n => cases hk
  | log l tb tc =>
    have hk' : tb = some k := hk
    subst hk'
    exact VRow.block h
def rCells (rs : List R) : List Value := rs.flatMap R.cells
def rabs (rs : List R) : List Ch := rs.map R.abs
theorem rCells_snoc (rs : List R) (r : R) : rCells (rs ++ [r]) = rCells rs ++ r.cells := by simp [rCells]
theorem rabs_snoc (rs : List R) (r : R) : rabs (rs ++ [r]) = rabs rs ++ [r.abs] := by simp [rabs]
theorem rabs_length (rs : List R) : (rabs rs).length = rs.length := by simp [rabs]
/-- The set in memory. -/
structure RefC (w : World) (x : Nat) (rb : Option Nat) (cap : Nat) (rs : List R) : Prop where
  set : w.heap[x]? = some (.cells #[.slice (rb.map fun b => ⟨b, 0, none⟩) rs.length cap] 55 (0, 0))
  row : VRow 75 10 w rb cap rs.length (rCells rs)
  ok : ∀ r ∈ rs, r.ok w
def rfoot (x : Nat) (rb : Option Nat) (rs : List R) (k : Nat) : Prop := k = x ∨ rb = some k ∨ ∃ r ∈ rs, r.foot k
section
variable {w W : World} {x : Nat} {rb : Option Nat} {cap : Nat} {rs : List R}
theorem RefC.kept (h : RefC w x rb cap rs) (hk : ∀ k, rfoot x rb rs k → W.heap[k]? = w.heap[k]?) : RefC W x rb cap rs where
  set := (hk x (.inl rfl)).trans h.set
  row := h.row.kept fun b e => hk b (.inr (.inl e))
  ok r hr := (h.ok r hr).kept fun k hf => hk k (.inr (.inr ⟨r, hr, hf⟩))
theorem RefC.lt (h : RefC w x rb cap rs) {k : Nat} (hk : rfoot x rb rs k) : k < w.heap.size := by
  rcases hk with rfl | e | ⟨r, hr, hf⟩
  · exact lt_of_block h.set
  · have := h.row; rw [e] at this; exact this.lt
  · obtain ⟨_, hb⟩ := (h.ok r hr).tag hf; exact lt_of_block hb
theorem RefC.below (h : RefC w x rb cap rs) (hb : Below w.heap.size w W) : RefC W x rb cap rs := h.kept fun k hk => hb.block k (h.lt hk)
theorem RefC.rb_ne (h : RefC w x rb cap rs) {b : Nat} (e : rb = some b) : b ≠ x := by
  have hl := h.row; rw [e] at hl
  obtain ⟨row, hr⟩ := hl.block
  intro e2
  subst e2; have := h.set; rw [hr] at this
  simp only [Option.some.injEq, Obj.cells.injEq] at this
  exact absurd this.2.1 (by decide)
theorem RefC.foot_ne (h : RefC w x rb cap rs) {r : R} {k : Nat} (hok : r.ok w) (hf : r.foot k) : k ≠ x ∧ rb ≠ some k := by
  obtain ⟨row, hb⟩ := hok.tag hf
  refine ⟨fun e => ?_, fun e => ?_⟩
  · subst e; have := h.set; rw [hb] at this
    simp only [Option.some.injEq, Obj.cells.injEq] at this
    exact absurd this.2.1 (by decide)
  · have hl := h.row; rw [e] at hl
    obtain ⟨row2, hr2⟩ := hl.block
    rw [hb] at hr2
    simp only [Option.some.injEq, Obj.cells.injEq] at hr2
    exact absurd hr2.2.1 (by decide)
theorem RefC.cell0 (h : RefC w x rb cap rs) : w.cell? ⟨x, 0, none⟩ = some (.slice (rb.map fun b => ⟨b, 0, none⟩) rs.length cap) := by rw [cell_of_row _ _ _ _ _ _ h.set]; rfl
/-- The cells of a change. -/
theorem RefC.cellsAt (h : RefC w x rb cap rs) (j : Nat) (hj : j < rs.length) : ∃ b, rb = some b ∧ b < w.heap.size ∧ ∀ i, i < 10 → w.cell? ⟨b, j * 10 + i, none⟩ = (rs[j].cells)[i]? := by
  have hlen := h.row.1
  have hg := fun i (hi : i < 10) => flat_get R.cells 10 rs (fun _ _ => rfl) j hj i hi
  cases hrb : rb with
  | none => have hr := h.row; rw [hrb] at hr; have := hr.nil.2.1; omega
  | some b =>
    have hr := h.row
    rw [hrb] at hr
    refine ⟨b, rfl, hr.lt, fun i hi => ?_⟩
    have hlt : j * 10 + i < (rCells rs).length := by omega
    obtain ⟨b2, hb2, hc⟩ := hr.cell (j * 10 + i) hlt
    cases hb2
    rw [hc, ← hg i hi, ← List.getElem?_eq_getElem hlt]; rfl
end
def RAt (w : World) (x : Nat) (M : List Ch) (F : Nat → Prop) : Prop := ∃ rb cap rs, RefC w x rb cap rs ∧ rabs rs = M ∧ F = rfoot x rb rs
def RTurns (w : World) (x : Nat) (F : Nat → Prop) (M : List Ch) (w' : World) : Prop := ∃ F', RAt w' x M F' ∧ Eff F w F' w'
theorem RAt.lt {w : World} {x : Nat} {M : List Ch} {F : Nat → Prop} (h : RAt w x M F) {k : Nat} (hk : F k) : k < w.heap.size := by
  obtain ⟨rb, cap, rs, h1, h2, rfl⟩ := h
  exact h1.lt hk
theorem RAt.kept {w w' : World} {x : Nat} {M : List Ch} {F : Nat → Prop} (h : RAt w x M F) (hk : ∀ k, F k → w'.heap[k]? = w.heap[k]?) : RAt w' x M F := by
  obtain ⟨rb, cap, rs, h1, h2, rfl⟩ := h
  exact ⟨rb, cap, rs, h1.kept hk, h2, rfl⟩
theorem RAt.below {w w' : World} {x : Nat} {M : List Ch} {F : Nat → Prop} (h : RAt w x M F) (hb : Below w.heap.size w w') : RAt w' x M F := h.kept fun _ hk => hb.block _ (h.lt hk)
theorem info_change : (Try.prog.info? 75).map (fun i => (i.size, i.bytes)) = some (10, 120) := by kernel_rfl
/-- One element more, of at most 200 bytes. -/
theorem run_append_w {P : Program} (w : World) (t ty e : TypeId) (i : TypeInfo) (z : Value) (ht : P.underlying t = some (.slice e)) (hi : P.info? e = some i) (hz : i.zero = some z) (hzs : z.cells.size = i.size) (hby : i.bytes ≤ 200)
    (gb : Option Nat) (cap n : Nat) (cs : List Value) (hr : VRow e i.size w gb cap n cs) (x : Value) (news : List Value) (hsrc : Src P i.size t x 1 news w) (hn : n < 1073741824) :
    ∃ b' cap' W, (Builtin.append_ #[t, t] ty #[.slice (gb.map fun b => ⟨b, 0, none⟩) n cap, x]).run P w = .ok (.slice (some ⟨b', 0, none⟩) (n + 1) cap') W ∧
      VRow e i.size W (some b') cap' (n + 1) (cs ++ news) ∧ (gb = some b' ∨ w.heap.size ≤ b') ∧ w.grownBy W gb := by
  have hnl : news.length = i.size := by rw [hsrc.newsLen, Nat.one_mul]
  by_cases hroom : n < cap
  · cases gb with
    | none => obtain ⟨_, _, h3⟩ := hr.nil; omega
    | some b =>
      obtain ⟨h1, h2, row, h3, h4, h5⟩ := hr
      have hcap : (n + 1) * i.size ≤ cap * i.size := Nat.mul_le_mul_right _ hroom
      rw [Nat.succ_mul] at hcap
      have hrun := run_append_room_src w t t ty e i ht hi b 0 n cap x 1 news hsrc hroom (fun j hj => by
        rw [cell_of_row w b _ row _ _ h3, Array.getElem?_eq_getElem (by omega)]; rfl) (fun j hj => frozen_of_row w b _ _ _ h3)
      refine ⟨b, cap, _, hrun, ⟨?_, hroom, _, setCells_block b _ _ _ _ _ _ h3, ?_, ?_⟩, .inl rfl, setCells_grown _ _ _ _⟩
      · rw [List.length_append, h1, hnl, Nat.succ_mul]
      · rw [setMany_size, h4]
      · intro k hk
        rw [List.length_append, h1, hnl] at hk
        rw [Nat.zero_add]
        by_cases e1 : k < n * i.size
        · rw [setMany_lt _ _ _ _ e1, List.getElem?_append_left (by omega)]
          exact h5 k (by omega)
        · rw [List.getElem?_append_right (by omega), h1]
          have := setMany_in news row (n * i.size) (k - n * i.size) (by omega) (by omega)
          rw [show n * i.size + (k - n * i.size) = k by omega] at this
          exact this
  · have hold : (Builtin.firstCells i.size n (.slice (gb.map fun b => ⟨b, 0, none⟩) n cap)).run P w.drew = .ok cs.toArray w.drew := by
      cases gb with
      | none =>
        obtain ⟨rfl, rfl, rfl⟩ := hr.nil
        simp [Builtin.firstCells]
      | some b =>
        obtain ⟨h1, h2, row, h3, h4, h5⟩ := hr
        refine run_firstCells_some w.drew i.size n ⟨b, 0, none⟩ n cap cs h1 (fun j u hj => ?_)
        have hj' : j < cs.length := by
          rcases Nat.lt_or_ge j cs.length with h' | h'
          · exact h'
          · rw [List.getElem?_eq_none h'] at hj; cases hj
        rw [add_head, cell_of_row w.drew b j row _ _ h3, h5 j hj']
        exact hj
    have hnc : n = cap := by have := hr.2.1; omega
    have hrun := run_append_grow_src w t t ty e i z ht hi hz (gb.map fun b => ⟨b, 0, none⟩) n cap cs hold x 1 news hsrc (by omega) (by omega)
      (by
        have h1 : Builtin.nextslicecap (n + 1) cap ≤ 2 * (n + 1) + 1000 := Nat.le_trans (nextslicecap_le (by omega)) (by omega)
        obtain ⟨q, hq⟩ : ∃ q, q = Builtin.nextslicecap (n + 1) cap := ⟨_, rfl⟩
        rw [← hq] at h1 ⊢
        have h2 : q * i.bytes ≤ q * 200 := Nat.mul_le_mul_left q hby
        omega)
    have hle : n + 1 ≤ grownCap w (n + 1) cap e := Nat.le_add_right _ _
    refine ⟨_, _, _, hrun, ⟨?_, hle, _, heap_alloc_new _ _, ?_, ?_⟩, .inr ?_, ⟨rfl, rfl, rfl, ?_, fun k hk _ => heap_alloc_old _ _ hk⟩⟩
    · rw [List.length_append, hr.1, hnl, Nat.succ_mul]
    · have hle2 : grownCap w (n + 1) cap e = n + 1 + (grownCap w (n + 1) cap e - (n + 1)) := by omega
      rw [Array.size_append, size_zeroCells, hzs, List.size_toArray, List.length_append, hr.1, hnl]
      rw [hle2, Nat.add_mul, Nat.succ_mul]
      simp
    · intro k hk
      rw [Array.getElem?_append_left (by simpa using hk)]
      simp
    · simp
    · simp [World.size_alloc]
theorem info_changez : (Try.prog.info? 75).map (fun i => (i.zero, i.size, i.bytes)) = some (some (.agg #[.int .i64 0, .string ⟨#[]⟩, .int .u64 0, .int .u64 0, .int .u64 0, .int .u64 0, .int .i64 0, .string ⟨#[]⟩, .slice none 0 0, .string ⟨#[]⟩]), 10, 120) := by kernel_rfl
/-- One change more: the append, and the store behind it. W0: the world ahead of the box. -/
theorem ref_world {w : World} {x : Nat} {rb : Option Nat} {cap : Nat} {rs : List R} (h : RefC w x rb cap rs) (r : R) (W0 : World) (hb : Below w.heap.size w W0) (hok : r.ok W0) (hnew : ∀ k, r.foot k → w.heap.size ≤ k) (hlen : rs.length < 1000000) (ty : TypeId) :
    ∃ b' cap' W, (Builtin.append_ #[53, 53] ty #[.slice (rb.map fun b => ⟨b, 0, none⟩) rs.length cap, .slice (some ⟨W0.heap.size, 0, none⟩) 1 1]).run Try.prog
        (W0.alloc (.cells r.cells.toArray 75 (0, 0))) = .ok (.slice (some ⟨b', 0, none⟩) (rs.length + 1) cap') W ∧
      (∀ k, k < W0.heap.size → rb ≠ some k → W.heap[k]? = W0.heap[k]?) ∧ W.heap[x]? = w.heap[x]? ∧ W0.heap.size < W.heap.size ∧
      RTurns w x (rfoot x rb rs) (rabs rs ++ [r.abs]) (W.setCell ⟨x, 0, none⟩ (.slice (some ⟨b', 0, none⟩) (rs.length + 1) cap')) := by
  obtain ⟨i, hi, hz, hsz, hby⟩ := info_parts info_changez
  obtain ⟨W1, hW1⟩ : ∃ W1, W1 = W0.alloc (.cells r.cells.toArray 75 (0, 0)) := ⟨_, rfl⟩
  have hb1 : Below W0.heap.size W0 W1 := by rw [hW1]; exact (Below.refl _ _).alloc (Nat.le_refl _) _
  have hs1 : W1.heap.size = W0.heap.size + 1 := by rw [hW1]; exact World.size_alloc _ _
  have hs0 := hb.size
  have h0 := h.below hb
  have h1 := h0.below hb1
  have hrow : VRow 75 i.size W1 rb cap rs.length (rCells rs) := by rw [hsz]; exact h1.row
  have hsrc : Src Try.prog i.size 53 (.slice (some ⟨W0.heap.size, 0, none⟩) 1 1) 1 r.cells W1 := by
    rw [hW1, hsz]
    exact src_row W0 _ _ Try.underlying53 r.cells r.cells_one 10 rfl _ rfl 1
  obtain ⟨b', cap', W, r1, r2, r3, r4⟩ := run_append_w W1 53 ty 75 i _ Try.underlying53 hi hz (by rw [hsz]; rfl) (by omega) rb cap rs.length _ hrow _ _ hsrc (by omega)
  rw [hsz] at r2
  rw [← hW1]
  have hs4 := r4.size
  have hkk : ∀ k, k < W0.heap.size → rb ≠ some k → W.heap[k]? = W0.heap[k]? := fun k hk hne => (r4.block k (by omega) (Ne.symm hne)).trans (hb1.block k hk)
  have hxlt : x < w.heap.size := lt_of_block h.set
  have hrx : rb ≠ some x := fun e => h.rb_ne e rfl
  have hx : W.heap[x]? = w.heap[x]? := (hkk x (by omega) hrx).trans (hb.block x hxlt)
  have hbx : b' ≠ x := by
    rcases r3 with e | e
    · exact h.rb_ne e
    · omega
  have hrb : ∀ b, rb = some b → b < w.heap.size := fun b e => h.lt (.inr (.inl e))
  refine ⟨b', cap', W, r1, hkk, hx, by omega, rfoot x (some b') (rs ++ [r]), ⟨some b', cap', rs ++ [r], ⟨?_, ?_, ?_⟩, rabs_snoc _ _, rfl⟩, ?_⟩
  · rw [setCell_block _ (hx.trans h.set), List.length_append]; rfl
  · rw [List.length_append, rCells_snoc]
    exact r2.kept fun b e => by cases e; exact setCell_other _ hbx
  · intro y hy
    have hy0 : y.ok W0 := by
      rcases List.mem_append.1 hy with q | q
      · exact h0.ok y q
      · rw [List.mem_singleton.1 q]; exact hok
    refine hy0.kept fun k hf => ?_
    obtain ⟨h2, h3⟩ := h0.foot_ne hy0 hf
    obtain ⟨_, hblk⟩ := hy0.tag hf
    rw [setCell_other _ h2]
    exact hkk k (lt_of_block hblk) h3
  · have hsz2 : (W.setCell ⟨x, 0, none⟩ (.slice (some ⟨b', 0, none⟩) (rs.length + 1) cap')).heap.size = W.heap.size := by simp
    refine ⟨(r4.os.trans hb1.os).trans hb.os, (r4.tape.trans hb1.tape).trans hb.tape, (r4.output.trans hb1.output).trans hb.output, by rw [hsz2]; omega, fun k hk hn => ?_, fun k hk => ?_⟩
    · rw [setCell_other _ (fun e => hn (.inl e)), hkk k (by omega) (fun e => hn (.inr (.inl e)))]
      exact hb.block k hk
    · rw [hsz2]
      rcases hk with e | e | ⟨y, hy, hf⟩
      · exact .inl (.inl e)
      · cases e
        rcases r3 with e | e
        · exact .inl (.inr (.inl e))
        · exact .inr ⟨by omega, r2.lt⟩
      · rcases List.mem_append.1 hy with q | q
        · exact .inl (.inr (.inr ⟨y, q, hf⟩))
        · rw [List.mem_singleton.1 q] at hf
          obtain ⟨_, hblk⟩ := hok.tag hf
          have := lt_of_block hblk
          exact .inr ⟨hnew k hf, by omega⟩
/-- The changes behind a mark are gone. -/
theorem ref_cut {w : World} {x : Nat} {rb : Option Nat} {cap : Nat} {rs : List R} (h : RefC w x rb cap rs) (m : Nat) (hm : m ≤ rs.length) :
    RTurns w x (rfoot x rb rs) ((rabs rs).take m) (w.setCell ⟨x, 0, none⟩ (.slice (rb.map fun b => ⟨b, 0, none⟩) m cap)) := by
  have hlen : (rs.take m).length = m := by rw [List.length_take]; omega
  have hcells : (rCells rs).take (m * 10) = rCells (rs.take m) := by
    have h1 : rCells rs = rCells (rs.take m) ++ rCells (rs.drop m) := by unfold rCells; rw [← List.flatMap_append, List.take_append_drop]
    have h2 : (rCells (rs.take m)).length = m * 10 := by
      have : ∀ l : List R, (rCells l).length = l.length * 10 := by
        intro l
        induction l with
        | nil => rfl
        | cons y r ih => rw [show rCells (y :: r) = y.cells ++ rCells r from rfl, List.length_append, ih]; simp [R.cells]; omega
      rw [this, hlen]
    rw [h1, List.take_left' h2]
  refine ⟨rfoot x rb (rs.take m), ⟨rb, cap, rs.take m, ⟨?_, ?_, fun y hy => ?_⟩, by simp [rabs, List.map_take], rfl⟩, rfl, rfl, rfl, by simp, fun k _ hn => setCell_other _ fun e => hn (.inl e), fun k hk => .inl ?_⟩
  · rw [setCell_block _ h.set, hlen]; rfl
  · have := h.row.take hm
    rw [hcells] at this
    rw [hlen]
    exact this.kept fun b e => setCell_other _ (h.rb_ne e)
  · have hy2 := List.mem_of_mem_take hy
    exact (h.ok y hy2).kept fun k hf => setCell_other _ (h.foot_ne (h.ok y hy2) hf).1
  · rcases hk with e | e | ⟨y, hy, hf⟩
    · exact .inl e
    · exact .inr (.inl e)
    · exact .inr (.inr ⟨y, List.mem_of_mem_take hy, hf⟩)
end Go.Proofs.Ytgjaennilkhejaa
