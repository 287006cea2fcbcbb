/- The walks of Log and Logs. The bound: at most 10^6 changes. -/
import Derived.Test.YtgjaennilkhejaaWClone
namespace Go.Proofs.Ytgjaennilkhejaa
open Go.RowKit
attribute [local go_sem ↓] Go.wp_at_zero Go.wp_at_succ
theorem W4.cells_one (k : W4) : ∀ u ∈ k.cells, u.oneCell' = true := by
  intro u hu
  simp only [W4.cells, List.mem_cons, List.not_mem_nil, or_false] at hu
  rcases hu with rfl | rfl | rfl | rfl <;> rfl
theorem W4s_one (l : List W4) : ∀ u ∈ W4s l, u.oneCell' = true := by
  intro u hu
  obtain ⟨k, _, hk⟩ := List.mem_flatMap.1 hu
  exact k.cells_one u hk
theorem W4s_length (l : List W4) : (W4s l).length = l.length * 4 := by
  induction l with
  | nil => rfl
  | cons k r ih => rw [show W4s (k :: r) = k.cells ++ W4s r from rfl, List.length_append, ih]; simp [W4.cells]; omega
theorem G.logCells_one (c : G) : ∀ u ∈ c.logCells, u.oneCell' = true := by
  intro u hu
  cases c with
  | key f v bm bk => simp [G.logCells] at hu
  | refund n bs bn => simp [G.logCells] at hu
  | log l tb tc =>
    simp only [G.logCells, List.mem_cons, List.not_mem_nil, or_false] at hu
    rcases hu with rfl | rfl | rfl <;> rfl
theorem logCells_one (gs : List G) : ∀ u ∈ logCells gs, u.oneCell' = true := by
  intro u hu
  obtain ⟨k, _, hk⟩ := List.mem_flatMap.1 hu
  exact k.logCells_one u hk
theorem logsOf_le (L : List Ch) : (logsOf L).length ≤ L.length := List.length_filterMap_le _ _
/-- One log more: the append, and the store behind it. -/
theorem logs_world {w : World} {s : Nat} {g : Gs} {now und : List G} (h : SetC w s g now und) (l : Lg) (tb : Option Nat) (tc : Nat) (hok : G.ok w s g.maps (.log l tb tc)) (hlen : now.length < 1000000) (ty : TypeId) :
    ∃ b' cap' W, (Builtin.append_ #[31, 31] ty #[.slice (g.lb.map fun b => ⟨b, 0, none⟩) (logsOf (absL now)).length g.lcap, .slice (some ⟨w.heap.size, 0, none⟩) 1 1]).run Try.prog
        (w.alloc (.cells #[.string l.addr, .slice (tb.map fun b => ⟨b, 0, none⟩) l.topics.length tc, .string l.data] 34 (0, 0))) = .ok (.slice (some ⟨b', 0, none⟩) ((logsOf (absL now)).length + 1) cap') W ∧
      (∀ k, k < w.heap.size → g.lb ≠ some k → W.heap[k]? = w.heap[k]?) ∧ w.heap.size < W.heap.size ∧
      SetC (W.setCell ⟨s, 5, none⟩ (.slice (some ⟨b', 0, none⟩) ((logsOf (absL now)).length + 1) cap')) s { g with lb := some b', lcap := cap' } (now ++ [.log l tb tc]) und ∧ (g.lb = some b' ∨ w.heap.size ≤ b') ∧ b' < W.heap.size ∧ W.os = w.os ∧ W.tape = w.tape ∧ W.output = w.output := by
  obtain ⟨i, hi, hz, hsz, hby⟩ := info_parts info_log
  obtain ⟨c, hc⟩ : ∃ c : G, c = .log l tb tc := ⟨_, rfl⟩
  have e : absL (now ++ [c]) = absL now ++ [.log l] := by rw [hc]; exact absL_append _ _
  have el : logsOf (absL (now ++ [c])) = logsOf (absL now) ++ [l] := by rw [e, logsOf_snoc]; rfl
  obtain ⟨w1, hw1⟩ : ∃ w1, w1 = w.alloc (.cells #[.string l.addr, .slice (tb.map fun b => ⟨b, 0, none⟩) l.topics.length tc, .string l.data] 34 (0, 0)) := ⟨_, rfl⟩
  have hbel : Below w.heap.size w w1 := by rw [hw1]; exact (Below.refl _ _).alloc (Nat.le_refl _) _
  have hsz1 : w1.heap.size = w.heap.size + 1 := by rw [hw1]; exact World.size_alloc _ _
  have h1 := h.below hbel
  have hun : VRow 34 i.size w1 g.lb g.lcap (logsOf (absL now)).length (logCells now) := by rw [hsz]; exact h1.logs
  have hsrc : Src Try.prog i.size 31 (.slice (some ⟨w.heap.size, 0, none⟩) 1 1) 1 c.logCells w1 := by
    rw [hw1, hsz]
    exact src_row w _ _ Try.underlying31 c.logCells (G.logCells_one c) 3 (by rw [hc]; rfl) _ (by rw [hc]; rfl) 1
  have hnl : (logsOf (absL now)).length < 1000000 := by have := logsOf_le (absL now); rw [show (absL now).length = now.length by simp [absL]] at this; omega
  obtain ⟨b', cap', W, r1, r2, r3, r4⟩ := run_append_v w1 31 ty 34 i _ Try.underlying31 hi hz (by rw [hsz]; rfl) (by omega) g.lb g.lcap _ _ hun _ _ hsrc (by omega)
  rw [← hw1]
  have hkk : ∀ k, k < w.heap.size → g.lb ≠ some k → W.heap[k]? = w.heap[k]? := fun k hk hne => (r4.block k (by omega) (Ne.symm hne)).trans (hbel.block k hk)
  have hb3 : g.lb = some b' ∨ w.heap.size ≤ b' := by
    rcases r3 with r | r
    · exact .inl r
    · exact .inr (by omega)
  have hb' : VRow 34 3 W (some b') cap' (logsOf (absL (now ++ [c]))).length (logCells (now ++ [c])) := by
    rw [el, List.length_append, logCells_snoc]
    rw [hsz] at r2
    exact r2
  refine ⟨b', cap', W, r1, hkk, by have := r4.size; omega, ?_, hb3, hb'.lt, r4.os.trans hbel.os, r4.tape.trans hbel.tape, r4.output.trans hbel.output⟩
  have := h1.setLogs (now' := now ++ [c]) (lb := some b') (lcap := cap') r4 hb' (by rcases r3 with r | r; exact .inl r; exact .inr fun b e => by cases e; exact r) (fun f => by rw [e, keysOf_log]) (by rw [e, tot_snoc]; rfl) (fun x hx => by
    rcases List.mem_append.1 hx with r | r
    · exact .inl r
    · rw [List.mem_singleton.1 r, hc]
      exact .inr (hok.kept fun k hk => by obtain ⟨_, _, hb, _⟩ := hok.tag hk; exact hbel.block k (lt_of_block hb)))
  rw [el, List.length_append, hc] at this
  exact this
section
variable {w : World} {s : Nat} {g : Gs} {gs : List G}
theorem log_world (h : SetC w s g gs gs) (l : Lg) (hlen : gs.length < 1000000) (ty ty2 : TypeId) (W1 W2 : World) (a : Option Addr) (cap : Nat)
    (hW1 : W1 = w.alloc (.cells #[.string l.addr, .slice a l.topics.length cap, .string l.data] 34 (0, 0))) (hb2 : Below W1.heap.size W1 W2) (tb : Option Nat) (tc : Nat) (hr : VRow 24 4 W2 tb tc l.topics.length (W4s l.topics))
    (htb : ∀ b, tb = some b → W1.heap.size ≤ b) (W3 : World) (hW3 : W3 = W2.setCell ⟨w.heap.size, 1, none⟩ (.slice (tb.map fun b => ⟨b, 0, none⟩) l.topics.length tc)) :
    ∃ b5 cap5 W5 W6 b7 cap7 W7,
      W3.heap[w.heap.size]? = some (.cells #[.string l.addr, .slice (tb.map fun b => ⟨b, 0, none⟩) l.topics.length tc, .string l.data] 34 (0, 0)) ∧ W3.heap.size = W2.heap.size ∧
      W3.cell? ⟨s, 5, none⟩ = some (.slice (g.lb.map fun b => ⟨b, 0, none⟩) (logsOf (absL gs)).length g.lcap) ∧
      (Builtin.append_ #[31, 31] ty #[.slice (g.lb.map fun b => ⟨b, 0, none⟩) (logsOf (absL gs)).length g.lcap, .slice (some ⟨W3.heap.size, 0, none⟩) 1 1]).run Try.prog
        (W3.drew.alloc (.cells #[.string l.addr, .slice (tb.map fun b => ⟨b, 0, none⟩) l.topics.length tc, .string l.data] 34 (0, 0))) = .ok (.slice (some ⟨b5, 0, none⟩) ((logsOf (absL gs)).length + 1) cap5) W5 ∧
      W5.heap[w.heap.size]? = W3.heap[w.heap.size]? ∧ (∃ v, W5.cell? ⟨s, 5, none⟩ = some v) ∧ W5.frozen? ⟨s, 5, none⟩ = false ∧ W6 = W5.setCell ⟨s, 5, none⟩ (.slice (some ⟨b5, 0, none⟩) ((logsOf (absL gs)).length + 1) cap5) ∧
      W6.cell? ⟨s, 6, none⟩ = some (.slice (g.ub.map fun b => ⟨b, 0, none⟩) gs.length g.ucap) ∧
      (Builtin.append_ #[62, 62] ty2 #[.slice (g.ub.map fun b => ⟨b, 0, none⟩) gs.length g.ucap, .slice (some ⟨W6.heap.size, 0, none⟩) 1 1]).run Try.prog
        (W6.alloc (.cells #[.func (.func 32) #[.pointer (some ⟨s, 0, none⟩)] #[]] 1 (0, 0))) = .ok (.slice (some ⟨b7, 0, none⟩) (gs.length + 1) cap7) W7 ∧
      (∃ v, W7.cell? ⟨s, 6, none⟩ = some v) ∧ W7.frozen? ⟨s, 6, none⟩ = false ∧ Turns w s (foot s g gs gs) (absL gs ++ [.log l]) (W7.setCell ⟨s, 6, none⟩ (.slice (some ⟨b7, 0, none⟩) (gs.length + 1) cap7)) := by
  have hb1 : Below w.heap.size w W1 := by rw [hW1]; exact (Below.refl _ _).alloc (Nat.le_refl _) _
  have hs1 : W1.heap.size = w.heap.size + 1 := by rw [hW1]; exact World.size_alloc _ _
  have hs2 := hb2.size
  have ho1 : W1.heap[w.heap.size]? = some (.cells #[.string l.addr, .slice a l.topics.length cap, .string l.data] 34 (0, 0)) := by rw [hW1]; exact heap_alloc_new w _
  have ho2 := (hb2.block _ (by omega)).trans ho1
  have hb12 : Below w.heap.size w W2 := hb1.trans (hb2.mono (by omega))
  have hs3 : W3.heap.size = W2.heap.size := by rw [hW3]; simp
  have hb3 : Below w.heap.size w W3 := by rw [hW3]; exact hb12.setCell (p := ⟨w.heap.size, 1, none⟩) (Nat.le_refl _) _
  have ho3 : W3.heap[w.heap.size]? = some (.cells #[.string l.addr, .slice (tb.map fun b => ⟨b, 0, none⟩) l.topics.length tc, .string l.data] 34 (0, 0)) := by rw [hW3, setCell_block _ ho2]; rfl
  have hr3 : VRow 24 4 W3 tb tc l.topics.length (W4s l.topics) := hr.kept fun b e => by rw [hW3]; exact setCell_other _ (by have := htb b e; omega)
  have h3 := h.below hb3
  have h3d : SetC W3.drew s g gs gs := h3.kept fun _ _ => rfl
  obtain ⟨b5, cap5, W5, q1, q2, q3, q4, q5, q6, q7, q8, q9⟩ := logs_world h3d l tb tc hr3 hlen ty
  have hd3 : W3.drew.heap.size = W3.heap.size := rfl
  obtain ⟨W6, hW6⟩ : ∃ W6, W6 = W5.setCell ⟨s, 5, none⟩ (.slice (some ⟨b5, 0, none⟩) ((logsOf (absL gs)).length + 1) cap5) := ⟨_, rfl⟩
  rw [← hW6] at q4
  have hs6 : W6.heap.size = W5.heap.size := by rw [hW6]; simp
  have e : absL (gs ++ [.log l tb tc]) = absL gs ++ [.log l] := absL_append _ _
  obtain ⟨b7, cap7, W7, p1, p2, p3, p4, p5, p6, p7, p8, p9⟩ := undo_world q4 (.log l tb tc) (.inl (by simp)) hlen ty2
  have hss : s < w.heap.size := lt_of_block h.set
  have hset5 : W5.heap[s]? = W3.heap[s]? := q2 s (by omega) (fun e2 => (h3.lb_ne e2).1 rfl)
  have hset7 : W7.heap[s]? = W6.heap[s]? := p2 s (by omega) (fun e2 => (q4.ub_ne e2).1 rfl)
  have hlbw : g.lb ≠ some w.heap.size := fun e2 => by have hl := h.logs; rw [e2] at hl; have := hl.lt; omega
  refine ⟨b5, cap5, W5, W6, b7, cap7, W7, ho3, hs3, by rw [cell_of_row _ _ _ _ _ _ h3.set]; rfl, q1, q2 _ (by omega) hlbw, ⟨_, by rw [cell_of_row _ _ _ _ _ _ (hset5.trans h3.set)]; rfl⟩, frozen_of_row _ _ _ _ _ (hset5.trans h3.set), hW6,
    by rw [cell_of_row _ _ _ _ _ _ q4.set]; rfl, p1, ⟨_, by rw [cell_of_row _ _ _ _ _ _ (hset7.trans q4.set)]; rfl⟩, frozen_of_row _ _ _ _ _ (hset7.trans q4.set),
    foot s { g with lb := some b5, lcap := cap5, ub := some b7, ucap := cap7 } (gs ++ [.log l tb tc]) (gs ++ [.log l tb tc]), ⟨_, _, p4, e, rfl⟩, ?_⟩
  refine ⟨p7.trans (by rw [hW6]; exact q7.trans hb3.os), p8.trans (by rw [hW6]; exact q8.trans hb3.tape), p9.trans (by rw [hW6]; exact q9.trans hb3.output), by simp; omega, fun k hk hnf => ?_, ?_⟩
  · have hne : k ≠ s := fun e2 => hnf (.inl e2)
    have hnu : g.ub ≠ some k := fun e2 => hnf (.inr (.inr (.inr (.inl e2))))
    have hnl : g.lb ≠ some k := fun e2 => hnf (.inr (.inr (.inl e2)))
    rw [setCell_other _ hne, p2 k (by omega) hnu, hW6, setCell_other _ hne, q2 k (by omega) hnl]
    exact hb3.block k hk
  · have hcf : ∀ k, G.foot (.log l tb tc) k → w.heap.size ≤ k ∧ k < W7.heap.size := fun k hk => by
      have hk' : tb = some k := hk
      have h1 := htb k hk'
      have h2 : k < W2.heap.size := by subst hk'; exact hr.lt
      omega
    have hsz : (W7.setCell ⟨s, 6, none⟩ (.slice (some ⟨b7, 0, none⟩) (gs.length + 1) cap7)).heap.size = W7.heap.size := by simp
    rw [hsz]
    have hgs : ∀ k, (∃ x ∈ gs ++ [.log l tb tc], x.foot k) → foot s g gs gs k ∨ w.heap.size ≤ k ∧ k < W7.heap.size := by
      rintro k ⟨x, hx, hk⟩
      rcases List.mem_append.1 hx with r | r
      · exact .inl (.inr (.inr (.inr (.inr (.inl ⟨x, r, hk⟩)))))
      · rw [List.mem_singleton.1 r] at hk; exact .inr (hcf k hk)
    rintro k (rfl | hk | hk | hk | hk | hk)
    · exact .inl (.inl rfl)
    · exact .inl (.inr (.inl hk))
    · cases hk
      rcases q5 with q | q
      · exact .inl (.inr (.inr (.inl q)))
      · exact .inr ⟨by omega, by omega⟩
    · cases hk
      rcases p5 with q | q
      · exact .inl (.inr (.inr (.inr (.inl q))))
      · exact .inr ⟨by omega, p6⟩
    · exact hgs k hk
    · exact hgs k hk
set_option maxRecDepth 100000 in
set_option maxHeartbeats 1600000 in
theorem log_c (h : SetC w s g gs gs) (l : Lg) (a : Option Addr) (cap : Nat) (hv : VArg 4 w a cap l.topics.length (W4s l.topics)) (hby : l.topics.length * 32 ≤ 281474976710656) (hlen : gs.length < 1000000) :
    Calls Try.prog 15 #[.pointer (some ⟨s, 0, none⟩), .agg #[.string l.addr, .slice a l.topics.length cap, .string l.data]] w fun e w' => e = .returned (.tuple #[]) ∧ Turns w s (foot s g gs gs) (absL gs ++ [.log l]) w' := by
  obtain ⟨W1, hW1⟩ : ∃ W1, W1 = w.alloc (.cells #[.string l.addr, .slice a l.topics.length cap, .string l.data] 34 (0, 0)) := ⟨_, rfl⟩
  have hb1 : Below w.heap.size w W1 := by rw [hW1]; exact (Below.refl _ _).alloc (Nat.le_refl _) _
  have o1 : W1.heap[w.heap.size]? = some (.cells #[.string l.addr, .slice a l.topics.length cap, .string l.data] 34 (0, 0)) := by rw [hW1]; exact heap_alloc_new w _
  have c1 : W1.cell? ⟨w.heap.size, 1, none⟩ = some (.slice a l.topics.length cap) := by rw [cell_of_row _ _ _ _ _ _ o1]; rfl
  have hcl := cloneW_any W1 a cap l.topics.length (W4s l.topics) (hv.below hb1) (by omega) hby
  have hworld := fun (W2 : World) (hb2 : Below W1.heap.size W1 W2) (tb : Option Nat) (tc : Nat) (hr : VRow 24 4 W2 tb tc l.topics.length (W4s l.topics)) (htb : ∀ b, tb = some b → W1.heap.size ≤ b) => log_world h l hlen 31 62 W1 W2 a cap hW1 hb2 tb tc hr htb _ rfl
  obtain ⟨n, hn⟩ : ∃ n, n = l.topics.length := ⟨_, rfl⟩
  obtain ⟨cs, hcs⟩ : ∃ cs, cs = W4s l.topics := ⟨_, rfl⟩
  rw [← hn] at c1 hcl hworld hW1 o1 ⊢
  rw [← hcs] at hcl hworld
  have Hcl := Lib.hid hcl
  have Hw := Lib.hid (And.intro hworld o1)
  have HW1 := Lib.hid hW1
  clear h hv hby hlen hb1 o1 hcl hworld hn hcs hW1
  go_enter Try.func15, Try.ntmps15
  go_upto_region 1 with fail
  rw [← HW1.out]
  go_wp2_with fail
  refine Hcl.out.mono ?_
  rintro e w2 ⟨tb, tc, rfl, ⟨hr, htb⟩, hb2⟩
  obtain ⟨b5, cap5, W5, W6, b7, cap7, W7, k1, k2, k3, k4, k5, ⟨v5, k6⟩, k7, k8, k9, k10, ⟨v7, k11⟩, k12, k13⟩ := Hw.out.1 w2 hb2 tb tc hr htb
  have o2 := (hb2.block _ (lt_of_block Hw.out.2)).trans Hw.out.2
  have d1 : w2.cell? ⟨w.heap.size, 1, none⟩ = some (.slice a n cap) := by rw [cell_of_row _ _ _ _ _ _ o2]; rfl
  have d1f : w2.frozen? ⟨w.heap.size, 1, none⟩ = false := frozen_of_row _ _ _ _ _ o2
  obtain ⟨ta, hta⟩ : ∃ ta : Option Addr, ta = tb.map fun b => ⟨b, 0, none⟩ := ⟨_, rfl⟩
  rw [← hta] at k1 k2 k3 k4 k5
  rw [← hta]
  obtain ⟨W3, hW3⟩ : ∃ W3, W3 = w2.setCell ⟨w.heap.size, 1, none⟩ (.slice ta n tc) := ⟨_, rfl⟩
  rw [← hW3] at k1 k2 k3 k4 k5
  have e0 : W3.cell? ⟨w.heap.size, 0, none⟩ = some (.string l.addr) := by rw [cell_of_row _ _ _ _ _ _ k1]; rfl
  have e1 : W3.cell? ⟨w.heap.size, 1, none⟩ = some (.slice ta n tc) := by rw [cell_of_row _ _ _ _ _ _ k1]; rfl
  have e2 : W3.cell? ⟨w.heap.size, 2, none⟩ = some (.string l.data) := by rw [cell_of_row _ _ _ _ _ _ k1]; rfl
  obtain ⟨W4, hW4⟩ : ∃ W4, W4 = W3.alloc (.cells #[.string l.addr, .slice ta n tc, .string l.data] 34 (0, 0)) := ⟨_, rfl⟩
  have hs3 : s < W3.heap.size := World.block_lt_of_cell? W3 ⟨s, 5, none⟩ k3
  have g3 : W4.cell? ⟨s, 5, none⟩ = W3.cell? ⟨s, 5, none⟩ := by rw [hW4]; exact World.cell?_of_block (a := ⟨s, 5, none⟩) (heap_alloc_old _ _ hs3)
  rw [k3] at g3
  have happ : (Builtin.append_ #[31, 31] 31 #[.slice (g.lb.map fun b => ⟨b, 0, none⟩) (logsOf (absL gs)).length g.lcap, .slice (some ⟨W3.heap.size, 0, none⟩) 1 1]).run Try.prog W4.drew = .ok (.slice (some ⟨b5, 0, none⟩) ((logsOf (absL gs)).length + 1) cap5) W5 := by rw [hW4]; exact k4
  obtain ⟨la, hla⟩ : ∃ la : Option Addr, la = g.lb.map fun b => ⟨b, 0, none⟩ := ⟨_, rfl⟩
  obtain ⟨nl, hnl⟩ : ∃ nl, nl = (logsOf (absL gs)).length := ⟨_, rfl⟩
  obtain ⟨ua, hua⟩ : ∃ ua : Option Addr, ua = g.ub.map fun b => ⟨b, 0, none⟩ := ⟨_, rfl⟩
  obtain ⟨nu, hnu⟩ : ∃ nu, nu = gs.length := ⟨_, rfl⟩
  rw [← hla, ← hnl] at k3 g3 happ
  rw [← hnl] at k8
  rw [← hua, ← hnu] at k9 k10
  rw [← hnu] at k13
  have Happ := Lib.hid happ
  have Hrun7 := Lib.hid k10
  have HR := Lib.hid k13
  have HW3 := Lib.hid hW3
  have HW4 := Lib.hid hW4
  have HW6 := Lib.hid k8
  clear happ k1 k2 k4 k5 k8 k10 k13 hW3 hW4 hs3 hr htb hb2 o2 hta hla hnl hua hnu Hw Hcl
  go_upto_region 2 with fail
  rw [← HW3.out]
  have hw4 := HW4.out.symm
  clear d1 d1f
  go_region_law (refine step_append_run rfl (.tmp 12) (.tmp 14) 31 31 rfl (.slice la nl g.lcap) (.slice (some ⟨W3.heap.size, 0, none⟩) 1 1) _ W5 (by simp [Act.eval]) (by simp [Act.eval]) Happ.out ?_)
  all_goals rw [← HW6.out]
  all_goals go_wp2_with (at_builtin; refine wpList_append_run _ _ 62 62 _ _ _ W7 (by rfl) (by rfl) Hrun7.out ?_; go_frame)
  all_goals go_end0
  all_goals exact ⟨rfl, HR.out⟩
end
end Go.Proofs.Ytgjaennilkhejaa
