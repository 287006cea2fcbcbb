/- The walks of slices.Clone, at words and at logs. The bound: what is cloned is a slice that Go lets one have, of at most 2^48 bytes. -/
import Derived.Test.YtgjaennilkhejaaWOne
namespace Go.Proofs.Ytgjaennilkhejaa
open Go.RowKit
attribute [local go_sem ↓] Go.wp_at_zero Go.wp_at_succ
/-- A slice that can be read: n elements of sz cells each. -/
structure VArg (sz : Nat) (w : World) (a : Option Addr) (cap n : Nat) (cs : List Value) : Prop where
  len : cs.length = n * sz
  le : n ≤ cap
  nil : a = none → cap = 0
  one : ∀ u ∈ cs, u.oneCell' = true
  cell : ∀ i (h : i < cs.length), ∃ b, a = some b ∧ b.block < w.heap.size ∧ w.cell? (b.add i) = some (cs[i])
theorem add_block (b : Addr) (i : Nat) : (b.add i).block = b.block := by unfold Addr.add; split <;> rfl
section
variable {sz : Nat} {w w' : World} {a : Option Addr} {cap n : Nat} {cs : List Value}
theorem VArg.kept (h : VArg sz w a cap n cs) (hs : w.heap.size ≤ w'.heap.size) (hk : ∀ b, a = some b → b.block < w.heap.size → w'.heap[b.block]? = w.heap[b.block]?) : VArg sz w' a cap n cs :=
  ⟨h.len, h.le, h.nil, h.one, fun i hi => by
    obtain ⟨b, h1, h2, h3⟩ := h.cell i hi
    exact ⟨b, h1, by omega, (World.cell?_of_block (a := b.add i) (by rw [add_block]; exact hk b h1 h2)).trans h3⟩⟩
theorem VArg.below (h : VArg sz w a cap n cs) (hb : Below w.heap.size w w') : VArg sz w' a cap n cs := h.kept hb.size fun _ _ hlt => hb.block _ hlt
theorem VRow.arg {e : TypeId} {gb : Option Nat} (h : VRow e sz w gb cap n cs) (h1 : ∀ u ∈ cs, u.oneCell' = true) : VArg sz w (gb.map fun b => ⟨b, 0, none⟩) cap n cs := by
  refine ⟨h.1, h.2.1, fun e => ?_, h1, fun i hi => ?_⟩
  · cases gb with
    | none => exact h.nil.2.2
    | some b => cases e
  · obtain ⟨b, hb, hc⟩ := h.cell i hi
    subst hb
    exact ⟨⟨b, 0, none⟩, rfl, h.lt, by rw [add_head]; exact hc⟩
end
/-- All of a slice, appended to a slice of nothing in a block of its own. -/
theorem run_append_all {P : Program} (w : World) (t ty e : TypeId) (i : TypeInfo) (z : Value) (ht : P.underlying t = some (.slice e)) (hi : P.info? e = some i) (hz : i.zero = some z) (hzs : z.cells.size = i.size)
    (b : Nat) (hb : w.heap[b]? = some (.cells #[] e (0, 0))) (ad : Addr) (cap n : Nat) (cs : List Value) (h : VArg i.size w (some ad) cap n cs) (hn : (n : Int) ≤ 9223372036854775807) (hby : n * i.bytes ≤ 281474976710656) :
    ∃ b' cap' W, (Builtin.append_ #[t, t] ty #[.slice (some ⟨b, 0, none⟩) 0 0, .slice (some ad) n cap]).run P w = .ok (.slice (some ⟨b', 0, none⟩) n cap') W ∧ VRow e i.size W (some b') cap' n cs ∧ (b' = b ∨ w.heap.size ≤ b') ∧ Below w.heap.size w W := by
  have hsrc : Src P i.size t (.slice (some ad) n cap) n cs w := Src.ofSlice _ ht ad n cap _ h.len (fun j u hj => by
    have hjl : j < cs.length := (List.getElem?_eq_some_iff.1 hj).1
    obtain ⟨b2, h1, h2, h3⟩ := h.cell j hjl
    cases h1
    rw [h3, ← hj, List.getElem?_eq_getElem hjl]) h.one
  by_cases h0 : n = 0
  · subst h0
    have hcs : cs = [] := List.length_eq_zero_iff.1 (by rw [h.len, Nat.zero_mul])
    subst hcs
    have hrun := run_append_room_src w t t ty e i ht hi b 0 0 0 _ 0 [] hsrc (Nat.le_refl _) (fun j hj => by simp at hj) (fun j hj => by simp at hj)
    exact ⟨b, 0, _, hrun, ⟨by simp, Nat.le_refl _, _, hb, by simp, fun i hi => by simp at hi⟩, .inl rfl, Below.refl _ _⟩
  · have hold : (Builtin.firstCells i.size 0 (.slice (some ⟨b, 0, none⟩) 0 0)).run P w.drew = .ok (([] : List Value)).toArray w.drew :=
      run_firstCells_some w.drew i.size 0 ⟨b, 0, none⟩ 0 0 [] (by simp) (fun j u hj => by simp at hj)
    have hnc : Builtin.nextslicecap (0 + n) 0 = n := by unfold Builtin.nextslicecap; rw [if_pos (by omega)]; omega
    have hrun := run_append_grow_src w t t ty e i z ht hi hz (some ⟨b, 0, none⟩) 0 0 [] hold _ n cs hsrc (by omega) (by omega) (by rw [hnc]; exact hby)
    have hle : n ≤ grownCap w (0 + n) 0 e := by have : 0 + n ≤ grownCap w (0 + n) 0 e := Nat.le_add_right _ _; omega
    rw [Nat.zero_add] at hrun hle
    refine ⟨_, _, _, hrun, ⟨h.len, hle, _, heap_alloc_new _ _, ?_, ?_⟩, .inr (by simp), ((Below.refl w.heap.size w).drew).alloc (by simp) _⟩
    · have hle2 : grownCap w n 0 e = n + (grownCap w n 0 e - n) := by omega
      rw [Array.size_append, size_zeroCells, hzs, List.size_toArray, List.length_append, h.len]
      rw [hle2, Nat.add_mul]
      simp
    · intro k hk
      rw [Array.getElem?_append_left (by simpa using hk)]
      simp
theorem info_word : (Try.prog.info? 24).map (fun i => (i.zero, i.size, i.bytes)) = some (some (.agg #[.int .u64 0, .int .u64 0, .int .u64 0, .int .u64 0]), 4, 32) := by kernel_rfl
theorem info_log : (Try.prog.info? 34).map (fun i => (i.zero, i.size, i.bytes)) = some (some (.agg #[.string ⟨#[]⟩, .slice none 0 0, .string ⟨#[]⟩]), 3, 56) := by kernel_rfl
set_option maxRecDepth 100000 in
theorem cloneW_any (w : World) (a : Option Addr) (cap n : Nat) (cs : List Value) (h : VArg 4 w a cap n cs) (hn : (n : Int) ≤ 9223372036854775807) (hby : n * 32 ≤ 281474976710656) :
    Calls Try.prog 31 #[.slice a n cap] w fun e w' => ∃ (tb : Option Nat) (tc : Nat), e = .returned (.slice (tb.map fun b => ⟨b, 0, none⟩) n tc) ∧ (VRow 24 4 w' tb tc n cs ∧ ∀ b, tb = some b → w.heap.size ≤ b) ∧ Below w.heap.size w w' := by
  cases a with
  | none =>
    have h1 := h.nil rfl
    have h2 := h.le
    have hn0 : n = 0 := by omega
    subst hn0
    subst h1
    have heq : ∀ w, (binOp BinOp.eql 32 (Value.slice none 0 0) (Value.slice none 0 0)).run Try.prog w = .ok (.bool true) w := fun _ => by kernel_rfl
    have H := Lib.hid h.len
    clear h hn hby h2
    go_enter Try.func31, Try.ntmps31
    go_wp2_with fail
    go_ret
    exact ⟨none, 0, rfl, ⟨⟨H.out, Nat.le_refl _, rfl⟩, fun b e => by cases e⟩, Below.refl _ _⟩
  | some ad =>
    have heq : ∀ w, (binOp BinOp.eql 32 (Value.slice (some ad) n cap) (Value.slice none 0 0)).run Try.prog w = .ok (.bool false) w := fun _ => by kernel_rfl
    obtain ⟨i, hi, hz, hsz, hbb⟩ := info_parts info_word
    obtain ⟨W1, hW1⟩ : ∃ W1, W1 = w.alloc (.cells #[] 24 (0, 0)) := ⟨_, rfl⟩
    have hb : Below w.heap.size w W1 := by rw [hW1]; exact (Below.refl _ _).alloc (Nat.le_refl _) _
    have o1 : W1.heap[w.heap.size]? = some (.cells #[] 24 (0, 0)) := by rw [hW1]; exact heap_alloc_new w _
    obtain ⟨b', cap', W, r1, r2, r3, r4⟩ := run_append_all W1 32 32 24 i _ Try.underlying32 hi hz (by rw [hsz]; rfl) w.heap.size o1 ad cap n cs (by rw [hsz]; exact h.below hb) hn (by rw [hbb]; exact hby)
    rw [hsz] at r2
    have hb' : w.heap.size ≤ b' := by
      rcases r3 with r | r
      · omega
      · exact Nat.le_trans hb.size r
    have HR := Lib.hid (And.intro r2 (And.intro hb' (hb.trans (r4.mono hb.size))))
    have Hrun := Lib.hid r1
    have HW1 := Lib.hid hW1
    clear h hn hby hi hz hsz hbb hW1 hb o1 r1 r2 r3 r4 hb'
    go_enter Try.func31, Try.ntmps31
    go_upto_region 3 with fail
    have hw1 := HW1.out.symm
    go_wp2_with (at_builtin; refine wpList_append_run _ _ 32 32 _ _ _ W (by rfl) (by rfl) Hrun.out ?_; go_frame)
    go_ret
    exact ⟨some b', cap', rfl, ⟨HR.out.1, fun b e => by cases e; exact HR.out.2.1⟩, HR.out.2.2⟩
set_option maxRecDepth 100000 in
theorem cloneL_any (w : World) (a : Option Addr) (cap n : Nat) (cs : List Value) (h : VArg 3 w a cap n cs) (hn : (n : Int) ≤ 9223372036854775807) (hby : n * 56 ≤ 281474976710656) :
    Calls Try.prog 33 #[.slice a n cap] w fun e w' => ∃ (tb : Option Nat) (tc : Nat), e = .returned (.slice (tb.map fun b => ⟨b, 0, none⟩) n tc) ∧ (VRow 34 3 w' tb tc n cs ∧ ∀ b, tb = some b → w.heap.size ≤ b) ∧ Below w.heap.size w w' := by
  cases a with
  | none =>
    have h1 := h.nil rfl
    have h2 := h.le
    have hn0 : n = 0 := by omega
    subst hn0
    subst h1
    have heq : ∀ w, (binOp BinOp.eql 31 (Value.slice none 0 0) (Value.slice none 0 0)).run Try.prog w = .ok (.bool true) w := fun _ => by kernel_rfl
    have H := Lib.hid h.len
    clear h hn hby h2
    go_enter Try.func33, Try.ntmps33
    go_wp2_with fail
    go_ret
    exact ⟨none, 0, rfl, ⟨⟨H.out, Nat.le_refl _, rfl⟩, fun b e => by cases e⟩, Below.refl _ _⟩
  | some ad =>
    have heq : ∀ w, (binOp BinOp.eql 31 (Value.slice (some ad) n cap) (Value.slice none 0 0)).run Try.prog w = .ok (.bool false) w := fun _ => by kernel_rfl
    obtain ⟨i, hi, hz, hsz, hbb⟩ := info_parts info_log
    obtain ⟨W1, hW1⟩ : ∃ W1, W1 = w.alloc (.cells #[] 34 (0, 0)) := ⟨_, rfl⟩
    have hb : Below w.heap.size w W1 := by rw [hW1]; exact (Below.refl _ _).alloc (Nat.le_refl _) _
    have o1 : W1.heap[w.heap.size]? = some (.cells #[] 34 (0, 0)) := by rw [hW1]; exact heap_alloc_new w _
    obtain ⟨b', cap', W, r1, r2, r3, r4⟩ := run_append_all W1 31 31 34 i _ Try.underlying31 hi hz (by rw [hsz]; rfl) w.heap.size o1 ad cap n cs (by rw [hsz]; exact h.below hb) hn (by rw [hbb]; exact hby)
    rw [hsz] at r2
    have hb' : w.heap.size ≤ b' := by
      rcases r3 with r | r
      · omega
      · exact Nat.le_trans hb.size r
    have HR := Lib.hid (And.intro r2 (And.intro hb' (hb.trans (r4.mono hb.size))))
    have Hrun := Lib.hid r1
    have HW1 := Lib.hid hW1
    clear h hn hby hi hz hsz hbb hW1 hb o1 r1 r2 r3 r4 hb'
    go_enter Try.func33, Try.ntmps33
    go_upto_region 3 with fail
    have hw1 := HW1.out.symm
    go_wp2_with (at_builtin; refine wpList_append_run _ _ 31 31 _ _ _ W (by rfl) (by rfl) Hrun.out ?_; go_frame)
    go_ret
    exact ⟨some b', cap', rfl, ⟨HR.out.1, fun b e => by cases e; exact HR.out.2.1⟩, HR.out.2.2⟩
end Go.Proofs.Ytgjaennilkhejaa
