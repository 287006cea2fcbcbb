/- The walk of the law WarmLogs. No condition but what the argument is. -/
import Derived.Test.YtgjaennilkhejaaWKeep
namespace Go.Proofs.Ytgjaennilkhejaa
open Go.RowKit
attribute [local go_sem ↓] Go.wp_at_zero Go.wp_at_succ
/-- All of a slice, appended to nil. -/
theorem run_append_none {P : Program} (w : World) (t ty e : TypeId) (i : TypeInfo) (z : Value) (ht : P.underlying t = some (.slice e)) (hi : P.info? e = some i) (hz : i.zero = some z) (hzs : z.cells.size = i.size) (hs0 : 0 < i.size)
    (a : Option Addr) (cap n : Nat) (cs : List Value) (h : VArg i.size w a cap n cs) (hn : (n : Int) ≤ 9223372036854775807) (hby : n * i.bytes ≤ 281474976710656) :
    ∃ (tb : Option Nat) (tc : Nat) (W : World), (Builtin.append_ #[t, t] ty #[.slice none 0 0, .slice a n cap]).run P w = .ok (.slice (tb.map fun b => ⟨b, 0, none⟩) n tc) W ∧ VRow e i.size W tb tc n cs ∧ (∀ b, tb = some b → w.heap.size ≤ b) ∧ Below w.heap.size w W := by
  by_cases h0 : n = 0
  · subst h0
    have hcs : cs = [] := List.length_eq_zero_iff.1 (by rw [h.len, Nat.zero_mul])
    subst hcs
    have hs : Src P i.size t (.slice a 0 cap) 0 [] w := by
      cases a with
      | none => exact Src.ofNil w ht cap
      | some ad => exact Src.ofSlice w ht ad 0 cap [] (by simp) (fun j u hj => by simp at hj) (fun u hu => by cases hu)
    refine ⟨none, 0, w, ?_, ⟨by simp, Nat.le_refl _, rfl⟩, (fun b e => by cases e), Below.refl _ _⟩
    simp [Builtin.append_, run_underlying ht, sizeOf, typeInfo, hi, hs.len, hs.cells]
  · have hpos : 0 < cs.length := by rw [h.len]; exact Nat.mul_pos (by omega) hs0
    obtain ⟨ad, rfl, _, _⟩ := h.cell 0 hpos
    have hsrc : Src P i.size t (.slice (some ad) n cap) n cs w := Src.ofSlice _ ht ad n cap _ h.len (fun j u hj => by
      have hjl : j < cs.length := (List.getElem?_eq_some_iff.1 hj).1
      obtain ⟨b2, h1, h2, h3⟩ := h.cell j hjl
      cases h1
      rw [h3, ← hj, List.getElem?_eq_getElem hjl]) h.one
    have hold : (Builtin.firstCells i.size 0 (.slice none 0 0)).run P w.drew = .ok (([] : List Value)).toArray w.drew := run_firstCells_none w.drew i.size 0 0 0
    have hnc : Builtin.nextslicecap (0 + n) 0 = n := by unfold Builtin.nextslicecap; rw [if_pos (by omega)]; omega
    have hrun := run_append_grow_src w t t ty e i z ht hi hz none 0 0 [] hold _ n cs hsrc (by omega) (by omega) (by rw [hnc]; exact hby)
    have hle : n ≤ grownCap w (0 + n) 0 e := by have : 0 + n ≤ grownCap w (0 + n) 0 e := Nat.le_add_right _ _; omega
    rw [Nat.zero_add] at hrun hle
    refine ⟨some w.heap.size, _, _, hrun, ⟨h.len, hle, _, heap_alloc_new w.drew _, ?_, ?_⟩, (fun b e => by cases e; exact Nat.le_refl _), ((Below.refl w.heap.size w).drew).alloc (by simp) _⟩
    · have hle2 : grownCap w n 0 e = n + (grownCap w n 0 e - n) := by omega
      rw [Array.size_append, size_zeroCells, hzs, List.size_toArray, List.length_append, h.len]
      rw [hle2, Nat.add_mul]
      simp
    · intro k hk
      rw [Array.getElem?_append_left (by simpa using hk)]
      simp
/-- What stands in want, and the rows of its topics. -/
def K0 (gb : Option Nat) (ws : List (Lg × Option Nat × Nat)) (k : Nat) : Prop := gb = some k ∨ ∃ x ∈ ws, x.2.1 = some k
/-- A round, up to the set's Log. -/
theorem logs_round {w wr : World} {s : Nat} {L : List Ch} {ws : List (Lg × Option Nat × Nat)} {gb : Option Nat} {cp : Nat} (hR : VRow 34 3 wr gb cp ws.length (ws.flatMap lgCells)) (hT : ∀ x ∈ ws, VRow 24 4 wr x.2.1 x.2.2 x.1.topics.length (W4s x.1.topics))
    (hO : One3 w wr s L (K0 gb ws)) (x : Lg) (ta : Option Addr) (tc : Nat) (hva : VArg 4 wr ta tc x.topics.length (W4s x.topics)) (hby : x.topics.length * 32 ≤ 281474976710656) (hlen : ws.length < 1000) (ty ty2 ty3 : TypeId) (W1 : World)
    (hW1 : W1 = wr.alloc (.cells #[.string x.addr, .slice ta x.topics.length tc, .string x.data] 34 (0, 0))) :
    ∃ (tb1 : Option Nat) (tc1 : Nat) (W2 W3 : World) (tb2 : Option Nat) (tc2 : Nat) (W4 W4b : World) (b5 cp5 : Nat) (W5 : World),
      (Builtin.append_ #[32, 32] ty #[.slice none 0 0, .slice ta x.topics.length tc]).run Try.prog W1 = .ok (.slice (tb1.map fun b => ⟨b, 0, none⟩) x.topics.length tc1) W2 ∧
      W2.cell? ⟨wr.heap.size, 1, none⟩ = some (.slice ta x.topics.length tc) ∧ W2.frozen? ⟨wr.heap.size, 1, none⟩ = false ∧ W3 = W2.setCell ⟨wr.heap.size, 1, none⟩ (.slice (tb1.map fun b => ⟨b, 0, none⟩) x.topics.length tc1) ∧
      W3.heap[wr.heap.size]? = some (.cells #[.string x.addr, .slice (tb1.map fun b => ⟨b, 0, none⟩) x.topics.length tc1, .string x.data] 34 (0, 0)) ∧
      (Builtin.append_ #[32, 32] ty2 #[.slice none 0 0, .slice (tb1.map fun b => ⟨b, 0, none⟩) x.topics.length tc1]).run Try.prog W3.drew = .ok (.slice (tb2.map fun b => ⟨b, 0, none⟩) x.topics.length tc2) W4 ∧
      W4.heap[wr.heap.size]? = W3.heap[wr.heap.size]? ∧ W4b = W4.alloc (.cells #[.string x.addr, .slice (tb2.map fun b => ⟨b, 0, none⟩) x.topics.length tc2, .string x.data] 34 (0, 0)) ∧
      (Builtin.append_ #[31, 31] ty3 #[.slice (gb.map fun b => ⟨b, 0, none⟩) ws.length cp, .slice (some ⟨W4.heap.size, 0, none⟩) 1 1]).run Try.prog W4b = .ok (.slice (some ⟨b5, 0, none⟩) (ws.length + 1) cp5) W5 ∧
      W5.heap[wr.heap.size]? = W3.heap[wr.heap.size]? ∧ VRow 24 4 W5 tb1 tc1 x.topics.length (W4s x.topics) ∧ VRow 34 3 W5 (some b5) cp5 (ws.length + 1) ((ws ++ [(x, tb2, tc2)]).flatMap lgCells) ∧
      (∀ y ∈ ws ++ [(x, tb2, tc2)], VRow 24 4 W5 y.2.1 y.2.2 y.1.topics.length (W4s y.1.topics)) ∧
      One3 w W5 s L (fun k => K0 (some b5) (ws ++ [(x, tb2, tc2)]) k ∨ tb1 = some k ∨ k = wr.heap.size) ∧ (∀ k, K0 (some b5) (ws ++ [(x, tb2, tc2)]) k → tb1 ≠ some k ∧ k ≠ wr.heap.size) ∧ tb1 ≠ some wr.heap.size := by
  obtain ⟨i, hi, hz, hsz, hbb⟩ := info_parts info_word
  obtain ⟨il, hil, hzl, hszl, hbbl⟩ := info_parts info_log
  have hb1 : Below wr.heap.size wr W1 := by rw [hW1]; exact (Below.refl _ _).alloc (Nat.le_refl _) _
  have hs1 : W1.heap.size = wr.heap.size + 1 := by rw [hW1]; exact World.size_alloc _ _
  have o1 : W1.heap[wr.heap.size]? = some (.cells #[.string x.addr, .slice ta x.topics.length tc, .string x.data] 34 (0, 0)) := by rw [hW1]; exact heap_alloc_new wr _
  obtain ⟨tb1, tc1, W2, r1, r2, r3, r4⟩ := run_append_none W1 32 ty 24 i _ Try.underlying32 hi hz (by rw [hsz]; rfl) (by omega) ta tc x.topics.length (W4s x.topics) (by rw [hsz]; exact hva.below hb1) (by omega) (by rw [hbb]; exact hby)
  rw [hsz] at r2
  have hs2 := r4.size
  have o2 : W2.heap[wr.heap.size]? = _ := (r4.block _ (by omega)).trans o1
  obtain ⟨W3, hW3⟩ : ∃ W3, W3 = W2.setCell ⟨wr.heap.size, 1, none⟩ (.slice (tb1.map fun b => ⟨b, 0, none⟩) x.topics.length tc1) := ⟨_, rfl⟩
  have hs3 : W3.heap.size = W2.heap.size := by rw [hW3]; simp
  have o3 : W3.heap[wr.heap.size]? = some (.cells #[.string x.addr, .slice (tb1.map fun b => ⟨b, 0, none⟩) x.topics.length tc1, .string x.data] 34 (0, 0)) := by rw [hW3, setCell_block _ o2]; rfl
  have h3k : ∀ k, k ≠ wr.heap.size → W3.heap[k]? = W2.heap[k]? := fun k hk => by rw [hW3]; exact setCell_other _ hk
  have t1ne : tb1 ≠ some wr.heap.size := fun e => by have := r3 _ e; omega
  have rT1 : VRow 24 4 W3 tb1 tc1 x.topics.length (W4s x.topics) := r2.kept fun b e => h3k b (fun e2 => t1ne (by rw [e, e2]))
  obtain ⟨tb2, tc2, W4, q1, q2, q3, q4⟩ := run_append_none W3.drew 32 ty2 24 i _ Try.underlying32 hi hz (by rw [hsz]; rfl) (by omega) (tb1.map fun b => ⟨b, 0, none⟩) tc1 x.topics.length (W4s x.topics) (by rw [hsz]; exact (rT1.below ((Below.refl _ _).drew)).arg (W4s_one _)) (by omega) (by rw [hbb]; exact hby)
  rw [hsz] at q2
  have hd3 : W3.drew.heap.size = W3.heap.size := rfl
  have q4' : Below W3.heap.size W3 W4 := Below.trans ((Below.refl _ _).drew) q4
  have hs4 := q4'.size
  obtain ⟨W4b, hW4b⟩ : ∃ W4b, W4b = W4.alloc (.cells #[.string x.addr, .slice (tb2.map fun b => ⟨b, 0, none⟩) x.topics.length tc2, .string x.data] 34 (0, 0)) := ⟨_, rfl⟩
  have hb4 : Below W4.heap.size W4 W4b := by rw [hW4b]; exact (Below.refl _ _).alloc (Nat.le_refl _) _
  have hs4b : W4b.heap.size = W4.heap.size + 1 := by rw [hW4b]; exact World.size_alloc _ _
  have hsame : ∀ k, k < wr.heap.size → W4b.heap[k]? = wr.heap[k]? := fun k hk => by
    rw [hb4.block k (by omega), q4'.block k (by omega), h3k k (by omega), r4.block k (by omega)]; exact hb1.block k hk
  have hR4 : VRow 34 il.size W4b gb cp ws.length (ws.flatMap lgCells) := by rw [hszl]; exact hR.kept fun b e => hsame b (by rw [e] at hR; exact hR.lt)
  have hsrc : Src Try.prog il.size 31 (.slice (some ⟨W4.heap.size, 0, none⟩) 1 1) 1 (lgCells (x, tb2, tc2)) W4b := by
    rw [hW4b, hszl]
    exact src_row W4 _ _ Try.underlying31 (lgCells (x, tb2, tc2)) (fun u hu => by
      simp only [lgCells, List.mem_cons, List.not_mem_nil, or_false] at hu
      rcases hu with rfl | rfl | rfl <;> rfl) 3 rfl _ rfl 1
  obtain ⟨b5, cp5, W5, p1, p2, p3, p4⟩ := run_append_v W4b 31 ty3 34 il _ Try.underlying31 hil hzl (by rw [hszl]; rfl) (by omega) gb cp ws.length _ hR4 _ _ hsrc (by omega)
  rw [hszl] at p2
  have hgl : ∀ b, gb = some b → b < wr.heap.size := fun b e => by rw [e] at hR; exact hR.lt
  have h5 : ∀ k, k < W4b.heap.size → gb ≠ some k → W5.heap[k]? = W4b.heap[k]? := fun k hk hne => p4.block k hk (Ne.symm hne)
  have hng : ∀ k, wr.heap.size ≤ k → gb ≠ some k := fun k hk e => by have := hgl k e; omega
  have ht1lt : ∀ b, tb1 = some b → wr.heap.size < b ∧ b < W3.heap.size := fun b e => by
    have h1 := r3 b e
    subst e
    have h2 := rT1.lt
    omega
  have ht2lt : ∀ b, tb2 = some b → W3.heap.size ≤ b ∧ b < W4.heap.size := fun b e => by
    have h1 := q3 b e
    subst e
    have h2 := q2.lt
    omega
  have hTwr : ∀ y ∈ ws, ∀ b, y.2.1 = some b → b < wr.heap.size ∧ gb ≠ some b := fun y hy b e => by
    have h1 := hT y hy
    rw [e] at h1
    refine ⟨h1.lt, fun e2 => ?_⟩
    obtain ⟨row, hrow⟩ := h1.block
    rw [e2] at hR
    obtain ⟨row2, hrow2⟩ := hR.block
    rw [hrow] at hrow2
    simp only [Option.some.injEq, Obj.cells.injEq] at hrow2
    exact absurd hrow2.2.1 (by decide)
  have hb5 : (gb = some b5 ∧ b5 < wr.heap.size) ∨ W4b.heap.size ≤ b5 := by
    rcases p3 with e | e
    · exact .inl ⟨e, hgl _ e⟩
    · exact .inr e
  refine ⟨tb1, tc1, W2, W3, tb2, tc2, W4, W4b, b5, cp5, W5, r1, by rw [cell_of_row _ _ _ _ _ _ o2]; rfl, frozen_of_row _ _ _ _ _ o2, hW3, o3, q1, q4'.block _ (by omega), hW4b, p1, ?_, ?_, ?_, ?_, ?_, ?_, t1ne⟩
  · rw [h5 _ (by omega) (hng _ (Nat.le_refl _)), hb4.block _ (by omega)]; exact q4'.block _ (by omega)
  · exact rT1.kept fun b e => by
      obtain ⟨h1, h2⟩ := ht1lt b e
      rw [h5 b (by omega) (hng b (by omega)), hb4.block b (by omega)]; exact q4'.block b (by omega)
  · rw [List.flatMap_append, List.flatMap_singleton]; exact p2
  · intro y hy
    rcases List.mem_append.1 hy with hy | hy
    · exact (hT y hy).kept fun b e => by
        obtain ⟨h1, h2⟩ := hTwr y hy b e
        rw [h5 b (by omega) h2]; exact hsame b h1
    · rw [List.mem_singleton.1 hy]
      exact q2.kept fun b e => by
        obtain ⟨h1, h2⟩ := ht2lt b e
        rw [h5 b (by omega) (hng b (by omega))]; exact hb4.block b h2
  · refine hO.grown (p4.os.trans (hb4.os.trans (q4'.os.trans (by rw [hW3]; exact r4.os.trans hb1.os)))) (p4.tape.trans (hb4.tape.trans (q4'.tape.trans (by rw [hW3]; exact r4.tape.trans hb1.tape)))) (p4.output.trans (hb4.output.trans (q4'.output.trans (by rw [hW3]; exact r4.output.trans hb1.output)))) (by have := p4.size; omega)
      (fun k hk hn => ?_) (fun k hk => ?_)
    · rw [h5 k (by omega) (fun e => hn (.inl e))]; exact hsame k hk
    · have hs5 := p4.size
      rcases hk with (e | ⟨y, hy, e⟩) | e | e
      · cases e
        rcases hb5 with ⟨q, _⟩ | q
        · exact .inl (.inl q)
        · exact .inr ⟨by omega, p2.lt⟩
      · rcases List.mem_append.1 hy with hy | hy
        · exact .inl (.inr ⟨y, hy, e⟩)
        · rw [List.mem_singleton.1 hy] at e
          obtain ⟨h1, h2⟩ := ht2lt k e
          exact .inr ⟨by omega, by omega⟩
      · obtain ⟨h1, h2⟩ := ht1lt k e
        exact .inr ⟨by omega, by omega⟩
      · exact .inr ⟨by omega, by omega⟩
  · rintro k (e | ⟨y, hy, e⟩)
    · cases e
      refine ⟨fun e2 => ?_, fun e2 => ?_⟩
      · obtain ⟨h1, h2⟩ := ht1lt _ e2
        rcases hb5 with ⟨_, q⟩ | q <;> omega
      · rcases hb5 with ⟨_, q⟩ | q <;> omega
    · rcases List.mem_append.1 hy with hy | hy
      · obtain ⟨h1, _⟩ := hTwr y hy k e
        exact ⟨fun e2 => by have := (ht1lt k e2).1; omega, by omega⟩
      · rw [List.mem_singleton.1 hy] at e
        obtain ⟨h1, h2⟩ := ht2lt k e
        exact ⟨fun e2 => by have := (ht1lt k e2).2; omega, by omega⟩
/-- What stands in want is a list of logs. -/
theorem wantAt {w : World} {gb : Option Nat} {cp : Nat} {ws : List (Lg × Option Nat × Nat)} (hR : VRow 34 3 w gb cp ws.length (ws.flatMap lgCells)) (hT : ∀ x ∈ ws, VRow 24 4 w x.2.1 x.2.2 x.1.topics.length (W4s x.1.topics))
    (hsm : ∀ x ∈ ws, (x.1.topics.length : Int) ≤ 281474976710656) : LogsAt w gb ws.length (ws.map (·.1)) := by
  refine ⟨List.length_map _, fun i hi => ?_⟩
  have hi2 : i < ws.length := by rw [List.length_map] at hi; exact hi
  obtain ⟨x, hx⟩ : ∃ x, x = ws[i] := ⟨_, rfl⟩
  have hxe : (ws.map (·.1))[i] = x.1 := by simp only [List.getElem_map, hx]
  have hmem : x ∈ ws := by rw [hx]; exact List.getElem_mem hi2
  have hg := fun j (hj : j < 3) => flat_get lgCells 3 ws (fun _ _ => rfl) i hi2 j hj
  rw [← hx] at hg
  have hlen := hR.1
  have hcl : ∀ j, j < 3 → ∃ b, gb = some b ∧ b < w.heap.size ∧ w.cell? ⟨b, i * 3 + j, none⟩ = (ws.flatMap lgCells)[i * 3 + j]? := fun j hj => by
    have hlt : i * 3 + j < (ws.flatMap lgCells).length := by omega
    obtain ⟨b, hb, hcell⟩ := hR.cell (i * 3 + j) hlt
    have hr2 := hR
    rw [hb] at hr2
    exact ⟨b, hb, hr2.lt, by rw [hcell, List.getElem?_eq_getElem hlt]⟩
  obtain ⟨b, hb0, hlt, e0⟩ := hcl 0 (by omega)
  obtain ⟨b1, hb1, _, e1⟩ := hcl 1 (by omega)
  obtain ⟨b2, hb2, _, e2⟩ := hcl 2 (by omega)
  rw [hb0] at hb1 hb2
  cases hb1; cases hb2
  rw [hxe]
  exact ⟨b, x.2.1.map fun b => ⟨b, 0, none⟩, x.2.2, hb0, hlt, e0.trans (hg 0 (by omega)), e1.trans (hg 1 (by omega)), e2.trans (hg 2 (by omega)), (hT x hmem).arg (W4s_one _), hsm x hmem⟩
/-- w', where only the words' first numbers in the row tb may be other ones. -/
structure Bump (w w' : World) (tb : Option Nat) (tl : Nat) : Prop where
  os : w'.os = w.os
  tape : w'.tape = w.tape
  output : w'.output = w.output
  size : w'.heap.size = w.heap.size
  other : ∀ q, tb ≠ some q → w'.heap[q]? = w.heap[q]?
  row : ∀ b, tb = some b → ∃ row, w'.heap[b]? = some (.cells row 24 (0, 0)) ∧ ∀ q, q < tl → ∃ z, row[q * 4]? = some (.int .u64 z)
theorem Bump.start {w : World} {tb : Option Nat} {tc : Nat} {l : List W4} (h : VRow 24 4 w tb tc l.length (W4s l)) : Bump w w tb l.length := by
  refine ⟨rfl, rfl, rfl, rfl, fun _ _ => rfl, fun b e => ?_⟩
  subst e
  obtain ⟨h1, _, row, h2, h3, h4⟩ := h
  refine ⟨row, h2, fun q hq => ⟨l[q].a, ?_⟩⟩
  rw [h4 (q * 4) (by rw [h1]; omega)]
  exact (W4s_get l q hq).1
theorem Bump.step {w w' : World} {b tl : Nat} (h : Bump w w' (some b) tl) (k : Nat) (v : Int) : Bump w (w'.setCell ⟨b, k * 4, none⟩ (.int .u64 v)) (some b) tl := by
  refine ⟨h.os, h.tape, h.output, by simp [h.size], fun q hq => (setCell_other _ (fun e => hq (by rw [e]))).trans (h.other q hq), fun b2 e => ?_⟩
  cases e
  obtain ⟨row, h1, h2⟩ := h.row b rfl
  refine ⟨_, setCell_block _ h1, fun q hq => ?_⟩
  obtain ⟨z, hz⟩ := h2 q hq
  rw [Array.getElem?_setIfInBounds]
  by_cases e : k * 4 = q * 4
  · rw [if_pos e, if_pos (by rw [e]; exact (Array.getElem?_eq_some_iff.1 hz).1)]; exact ⟨v, rfl⟩
  · rw [if_neg e]; exact ⟨z, hz⟩
set_option maxRecDepth 100000 in
set_option maxHeartbeats 3200000 in
theorem logs_walk (v : Value) (xs : List Lg) (w : World) (hv : LogsArg w v xs) :
    Calls Try.prog 4 #[v] w fun e w' => e = .returned (.bool true) ∧ Below w.heap.size w w' := by
  obtain ⟨a, len, cap, rfl, hxl, hlc, hcap, _, hget⟩ := hv
  have hex := examples11 w
  have hnew := fun (w1 : World) (hb : Below w.heap.size w w1) => new_any hb
  have HV := Lib.hid (And.intro hxl (And.intro hget hnew))
  have Hex := Lib.hid hex
  have hlcI : (len : Int) ≤ (cap : Int) := by omega
  clear hxl hget hlc hex hnew
  go_enter Try.func4, Try.ntmps4
  go_wp2_with fail
  refine Hex.out.mono ?_
  rintro e w1 ⟨rfl, hb1⟩
  have hn := HV.out.2.2 w1 hb1
  have Hn := Lib.hid hn
  clear hn hb1 Hex
  go_wp2_with fail
  refine Hn.out.mono ?_
  rintro e w2 ⟨s, rfl, h2⟩
  have H2 := Lib.hid h2
  clear h2 Hn
  go_upto_region 7 with fail
  go_cut [0] (fun v wx => ∃ m : Nat, v = .slice a m cap ∧ (m : Int) ≤ (len : Int) ∧ (m : Int) ≤ 10 ∧ wx = w2)
  case first =>
    go_wp2_with fail
    all_goals go_meet
    exact ⟨(min (len : Int) 10).toNat, rfl, by omega, by omega, rfl⟩
  case rest =>
    obtain ⟨m, rfl, hml, hm10, rfl⟩ := hcut
    go_wp2_with fail
    go_loopw [5, 6] (fun wv i wr => ∃ (ws : List (Lg × Option Nat × Nat)) (gb : Option Nat) (cp : Nat), wv = .slice (gb.map fun b => ⟨b, 0, none⟩) ws.length cp ∧ i = .int .i64 (ws.length : Nat) ∧ (ws.length : Int) ≤ (m : Int) ∧ ws.map (·.1) = xs.take ws.length ∧
      VRow 34 3 wr gb cp ws.length (ws.flatMap lgCells) ∧ (∀ x ∈ ws, VRow 24 4 wr x.2.1 x.2.2 x.1.topics.length (W4s x.1.topics)) ∧ One3 w wr s (ws.map fun x => .log x.1) (K0 gb ws)) (fun _ i _ => m - (intOf i).toNat)
    case atStart => exact ⟨[], none, 0, rfl, rfl, by simp, rfl, ⟨rfl, Nat.le_refl _, rfl⟩, (fun x hx => by cases hx), H2.out.three.mono fun k hk => by
      rcases hk with e | ⟨x, hx, _⟩
      · cases e
      · cases hx⟩
    case round =>
      obtain ⟨ws, gb, cp, rfl, rfl, hjm, hws, hR, hT, hO⟩ := hrel
      obtain ⟨j, hj⟩ : ∃ j, j = ws.length := ⟨_, rfl⟩
      obtain ⟨ga, hga⟩ : ∃ ga : Option Addr, ga = gb.map fun b => ⟨b, 0, none⟩ := ⟨_, rfl⟩
      rw [← hj] at hjm
      rw [← hj, ← hga]
      have hj0 : (0 : Int) ≤ (j : Int) := by omega
      by_cases hlt : (j : Int) < (m : Int)
      · obtain ⟨b, o, v1, ea, hbl, c0, c1, c2, ta, tc, ev, hva, hby⟩ := HV.out.2.1 j (by have := HV.out.1; omega)
        have hk := fun q => World.cell?_of_block (a := ⟨b, q, none⟩) (hO.world.block b hbl)
        have d0 := (hk _).trans c0
        have d1 := (hk _).trans c1
        have d2 := (hk _).trans c2
        obtain ⟨x, hx⟩ : ∃ x, x = xs[j]'(by have := HV.out.1; omega) := ⟨_, rfl⟩
        have hx2 : xs[j]? = some x := by rw [hx]; exact List.getElem?_eq_getElem _
        rw [← hx] at d0 d2 ev hva hby
        clear hx
        subst ev
        subst ea
        obtain ⟨W1, hW1⟩ : ∃ W1, W1 = wr.alloc (.cells #[.string x.addr, .slice ta x.topics.length tc, .string x.data] 34 (0, 0)) := ⟨_, rfl⟩
        have hreach : reachBytes = 140737488351232 := rfl
        obtain ⟨tb1, tc1, W2, W3, tb2, tc2, W4, W4b, b5, cp5, W5, a1, a2, a2f, a3, a4, a5, a6, a7, a8, a9, a10, a11, a12, a13, a14, a15⟩ := logs_round hR hT hO x ta tc (hva.below hO.world) (by omega) (by omega) 32 32 31 W1 hW1
        have hlog := log_k a13 x (tb1.map fun b => ⟨b, 0, none⟩) tc1 (a10.arg (W4s_one _)) (by omega) (by rw [List.length_map]; omega)
        have e11 : W1.cell? ⟨wr.heap.size, 1, none⟩ = some (.slice ta x.topics.length tc) := by rw [hW1, cell_of_row _ _ _ _ _ _ (heap_alloc_new wr _)]; rfl
        obtain ⟨B, hB⟩ : ∃ B, B = wr.heap.size := ⟨_, rfl⟩
        obtain ⟨t1, ht1⟩ : ∃ t1 : Option Addr, t1 = tb1.map fun b => ⟨b, 0, none⟩ := ⟨_, rfl⟩
        obtain ⟨t2, ht2⟩ : ∃ t2 : Option Addr, t2 = tb2.map fun b => ⟨b, 0, none⟩ := ⟨_, rfl⟩
        obtain ⟨tl, htl⟩ : ∃ tl, tl = x.topics.length := ⟨_, rfl⟩
        rw [← htl] at d1 a1 a2 a3 a4 a5 a7 hlog e11 hW1
        rw [← ht1] at a1 a3 a4 a5 hlog
        rw [← ht2] at a5 a7
        rw [← hj, ← hga] at a8
        rw [← hB] at a2 a2f a3 a4 a6 a9 e11
        have e30 : W3.cell? ⟨B, 0, none⟩ = some (.string x.addr) := by rw [cell_of_row _ _ _ _ _ _ a4]; rfl
        have e31 : W3.cell? ⟨B, 1, none⟩ = some (.slice t1 tl tc1) := by rw [cell_of_row _ _ _ _ _ _ a4]; rfl
        have e32 : W3.cell? ⟨B, 2, none⟩ = some (.string x.data) := by rw [cell_of_row _ _ _ _ _ _ a4]; rfl
        have e40 := cell_of_row W4 B 0 _ _ _ (a6.trans a4)
        have e41 := cell_of_row W4 B 1 _ _ _ (a6.trans a4)
        have e42 := cell_of_row W4 B 2 _ _ _ (a6.trans a4)
        have e50 := cell_of_row W5 B 0 _ _ _ (a9.trans a4)
        have e51 := cell_of_row W5 B 1 _ _ _ (a9.trans a4)
        have e52 := cell_of_row W5 B 2 _ _ _ (a9.trans a4)
        rw [show (#[.string x.addr, .slice t1 tl tc1, .string x.data] : Array Value)[0]? = some (.string x.addr) from rfl] at e40 e50
        rw [show (#[.string x.addr, .slice t1 tl tc1, .string x.data] : Array Value)[1]? = some (.slice t1 tl tc1) from rfl] at e41 e51
        rw [show (#[.string x.addr, .slice t1 tl tc1, .string x.data] : Array Value)[2]? = some (.string x.data) from rfl] at e42 e52
        have HS := Lib.hid (And.intro hws (And.intro hj (And.intro hx2 (And.intro htl (And.intro ht1 (And.intro hby (And.intro hB (And.intro a4 a9))))))))
        have HW1 := Lib.hid hW1
        have Ha1 := Lib.hid a1
        have Ha3 := Lib.hid a3
        have Ha5 := Lib.hid a5
        have Ha7 := Lib.hid a7
        have Ha8 := Lib.hid a8
        have HA := Lib.hid (And.intro a10 (And.intro a11 (And.intro a12 (And.intro a14 (And.intro a15 hlog)))))
        clear c0 c1 c2 hk hws hR hT hO hga hx2 hva hby hbl hreach a1 a3 a4 a5 a6 a7 a8 a9 a10 a11 a12 a13 a14 a15 hlog ht1 ht2 hW1 hj htl hB
        go_upto_region 13 with fail
        rw [← HW1.out, ← HS.out.2.2.2.2.2.2.1]
        go_wp2_with (at_builtin; refine wpList_append_run _ _ 32 32 _ _ _ W2 (by rfl) (by rfl) Ha1.out ?_; go_frame)
        rw [← Ha3.out]
        clear a2 a2f e11
        have hw4b := Ha7.out.symm
        go_cut [5] (fun v wx => v = .slice (some ⟨b5, 0, none⟩) (j + 1) cp5 ∧ wx = W5)
        case first =>
          go_region_law (first | (refine step_append_run rfl (.const (.slice none 0 0)) (.tmp 40) 32 32 rfl (.slice none 0 0) (.slice t1 tl tc1) _ W4 (by simp [Act.eval]) (by simp [Act.eval]) Ha5.out ?_) | (refine step_append_run rfl (.tmp 34) (.tmp 43) 31 31 rfl (.slice ga j cp) (.slice (some ⟨W4.heap.size, 0, none⟩) 1 1) _ W5 (by simp [Act.eval]) (by simp [Act.eval]) Ha8.out ?_))
          all_goals go_wp2_with fail
          all_goals go_meet
          all_goals exact ⟨rfl, rfl⟩
        case rest =>
          obtain ⟨rfl, rfl⟩ := hcut
          clear e30 e31 e32 e40 e41 e42 hw4b
          go_wp2_with fail
          refine HA.out.2.2.2.2.2.mono ?_
          rintro e w7 ⟨rfl, hO7, hK7⟩
          have hr1 := HA.out.1.kept (w' := w7) (fun b e => hK7 b (.inr (.inl e)))
          have hbm := Bump.start hr1
          have hbox : w7.heap[B]? = some (.cells #[.string x.addr, .slice t1 tl tc1, .string x.data] 34 (0, 0)) :=
            (hK7 B (.inr (.inr HS.out.2.2.2.2.2.2.1))).trans (HS.out.2.2.2.2.2.2.2.2.trans HS.out.2.2.2.2.2.2.2.1)
          have htb : tb1 ≠ some B := by rw [HS.out.2.2.2.2.2.2.1]; exact HA.out.2.2.2.2.1
          have hnil : tb1 = none → tl = 0 := fun e => by
            rw [e] at hr1
            rw [HS.out.2.2.2.1]
            exact hr1.nil.2.1
          rw [← HS.out.2.2.2.1] at hbm
          have htlb : (tl : Int) ≤ 281474976710656 := by
            have h1 := HS.out.2.2.2.2.2.1
            rw [← HS.out.2.2.2.1] at h1
            have h2 : reachBytes = 140737488351232 := rfl
            omega
          have H7 := Lib.hid (And.intro hO7 (And.intro hK7 (And.intro hbox (And.intro htb hnil))))
          have Hbm := Lib.hid hbm
          clear hr1 hbm hbox htb hnil hO7 hK7 e50 e51 e52
          go_wp2_with fail
          go_loopw [8] (fun v wx => ∃ k : Nat, v = .int .i64 k ∧ (k : Int) ≤ (tl : Int) ∧ Bump w7 wx tb1 tl) (fun v _ => tl - (intOf v).toNat)
          case atStart => exact ⟨0, rfl, by omega, Hbm.out⟩
          case round =>
            obtain ⟨k, rfl, hk, hbm⟩ := hrel
            have hbx := (hbm.other B H7.out.2.2.2.1).trans H7.out.2.2.1
            have e1 := cell_of_row _ B 1 _ _ _ hbx
            rw [show (#[.string x.addr, .slice t1 tl tc1, .string x.data] : Array Value)[1]? = some (.slice t1 tl tc1) from rfl] at e1
            have hk0 : (0 : Int) ≤ (k : Int) := by omega
            clear hbx
            by_cases hkl : (k : Int) < (tl : Int)
            · obtain ⟨b1, hb1⟩ : ∃ b1, tb1 = some b1 := by
                cases htb1 : tb1 with
                | none => have := H7.out.2.2.2.2 htb1; omega
                | some b1 => exact ⟨b1, rfl⟩
              have ht1 : t1 = some ⟨b1, 0, none⟩ := by rw [HS.out.2.2.2.2.1, hb1]; rfl
              rw [ht1] at e1
              rw [hb1] at hbm
              obtain ⟨row, hrow, hrz⟩ := hbm.row b1 rfl
              obtain ⟨z, hz⟩ := hrz k (by omega)
              have cz := cell_of_row _ b1 (k * 4) _ _ _ hrow
              rw [hz] at cz
              have fz := frozen_of_row _ b1 (k * 4) _ _ hrow
              have HH := Lib.hid (And.intro hbm hb1)
              clear hbm hb1 ht1 hrow hrz hz
              go_wp2_with fail
              refine ⟨⟨k + 1, by go_num, by omega, ?_⟩, by simp [intOf]; omega⟩
              rw [HH.out.2]
              exact HH.out.1.step k _
            · have HBm := Lib.hid hbm
              clear hbm
              go_wp2_with fail
              obtain ⟨hws, hj, hx2, htl, ht1, hby, hB, a4, a9⟩ := HS.out
              have hws1 : (ws ++ [(x, tb2, tc2)]).length = j + 1 := by rw [List.length_append, ← hj]; rfl
              have hkeep : ∀ q, K0 (some b5) (ws ++ [(x, tb2, tc2)]) q → wr.heap[q]? = w7.heap[q]? := fun q hq => HBm.out.other q (HA.out.2.2.2.1 q hq).1
              refine ⟨⟨ws ++ [(x, tb2, tc2)], some b5, cp5, ?_, ?_, ?_, ?_, ?_, ?_, ?_⟩, ?_⟩
              · rw [hws1]; rfl
              · rw [hws1]; go_num
              · rw [hws1]; omega
              · rw [hws1, List.map_append, hws, ← hj, List.take_add_one, hx2]; rfl
              · rw [List.length_append]
                exact (HA.out.2.1.kept (w' := w7) (fun b e => H7.out.2.1 b (.inl (.inl e)))).kept (fun b e => hkeep b (.inl e))
              · intro y hy
                exact ((HA.out.2.2.1 y hy).kept (w' := w7) (fun b e => H7.out.2.1 b (.inl (.inr ⟨y, hy, e⟩)))).kept (fun b e => hkeep b (.inr ⟨y, hy, e⟩))
              · rw [List.map_append]
                exact H7.out.1.grown HBm.out.os HBm.out.tape HBm.out.output (Nat.le_of_eq HBm.out.size.symm) (fun q _ hn => HBm.out.other q (fun e => hn (.inr (.inl e)))) (fun q hq => .inl (.inl hq))
              · simp [intOf]; omega
      · obtain rfl : j = m := by omega
        have hwl : ws.length = j := hj.symm
        have hlogsL : logsOf (ws.map fun x => Ch.log x.1) = ws.map (·.1) := by
          clear hR hT hO hws hj hwl
          induction ws with
          | nil => rfl
          | cons x r ih => simp only [List.map_cons, logsOf, List.filterMap_cons, logIn]; congr 1
        have hsmall : ∀ y ∈ ws.map (·.1), (y.topics.length : Int) ≤ 281474976710656 := fun y hy => by
          rw [hws] at hy
          have hy2 := List.mem_of_mem_take hy
          obtain ⟨i, hi, rfl⟩ := List.getElem_of_mem hy2
          obtain ⟨_, _, _, _, _, _, _, _, _, _, _, _, hby⟩ := HV.out.2.1 i hi
          have h2 : reachBytes = 140737488351232 := rfl
          omega
        have hlg := logs_one hO.one (by rw [List.length_map]; omega) (by rw [hlogsL]; exact hsmall)
        rw [hlogsL, List.length_map, hwl] at hlg
        have hwant := wantAt hR hT (fun x hx => hsmall x.1 (List.mem_map_of_mem hx))
        rw [hwl] at hwant
        have Hlg := Lib.hid hlg
        have HW := Lib.hid (And.intro hwant hga)
        have hj10 : (j : Int) ≤ 1000000 := by omega
        clear hws hR hT hO hj hga hwl hlogsL hsmall hlg hwant
        go_wp2_with fail
        refine Hlg.out.mono ?_
        rintro e w8 ⟨tb, tc, rfl, hLA, hO8, hb8⟩
        have hsame := logs_same w8 tb gb tc cp j (ws.map (·.1)) hLA (HW.out.1.kept hb8) hj10
        rw [← HW.out.2] at hsame
        obtain ⟨t8, ht8⟩ : ∃ t8 : Option Addr, t8 = tb.map fun b => ⟨b, 0, none⟩ := ⟨_, rfl⟩
        rw [← ht8] at hsame ⊢
        have Hs := Lib.hid (And.intro hsame hO8.world)
        clear hsame hLA hO8 hb8 ht8 Hlg
        go_wp2_with fail
        refine Hs.out.1.mono ?_
        rintro e w9 ⟨rfl, hb9⟩
        have Hb9 := Lib.hid hb9
        clear hb9
        go_wp2_with fail
        go_ret
        exact ⟨rfl, Hs.out.2.trans (Hb9.out.mono Hs.out.2.size)⟩
end Go.Proofs.Ytgjaennilkhejaa
