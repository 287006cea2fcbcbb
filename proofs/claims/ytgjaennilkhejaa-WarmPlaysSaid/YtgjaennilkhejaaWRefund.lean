/- The walks of Refund and of what takes it back. The bound: at most 10^6 changes. -/
import Derived.Test.YtgjaennilkhejaaWSlot
import Derived.Deep.RegionLaw
namespace Go.Proofs.Ytgjaennilkhejaa
open Go.RowKit
attribute [local go_sem ↓] Go.wp_at_zero Go.wp_at_succ
/-- An append whose run is known, in a region that draws its order. -/
theorem step_append_run {P : Program} {ops : Array Oper} {o : Oper} {a : Act} {w : World} {K : Act → World → Prop} {Q : Exit → Act → World → Prop} {E : Prop} (hg : o.guard = none) (s x : Operand) (t tx : TypeId)
    (hop : o.op = Op.call { callee := Callee.builtin Builtin.append, args := #[s, x], argTypes := #[t, tx] }) (v sv v' : Value) (W : World) (hs : a.eval s = v) (hx : a.eval x = sv)
    (hrun : (Builtin.append_ #[t, tx] o.type #[v, sv]).run P w = .ok v' W) (hK : K (a.put o.dst v') W) : if Region.wanted o (yielded ops a.tmps) = true then Oper.wp P o a w K Q else E := by
  have hw : Region.wanted o (yielded ops a.tmps) = true := by simp [Region.wanted, hg]
  rw [if_pos hw]
  obtain ⟨dst, op, type, pos, after, guard⟩ := o
  simp only at hop hg
  subst hop
  subst hg
  unfold Oper.wp
  rw [BigFrame.execOp_builtin, BigFrame.builtin_append]
  simp only [List.map_toArray, List.map_cons, List.map_nil, hs, hx, Sem.run_bind, hrun, Result.andThen_ok, Sem.run_pure]
  exact hK
section
variable {w : World} {s : Nat} {g : Gs} {gs : List G}
theorem refund_world (h : SetC w s g gs gs) (n : Int) (hlen : gs.length < 1000000) (ty : TypeId) (W2 W3 : World)
    (hW2 : W2 = (w.alloc (.cells #[.pointer (some ⟨s, 0, none⟩)] 26 (0, 0))).alloc (.cells #[.int .i64 n] 2 (0, 0)))
    (hW3 : W3 = (W2.setCell ⟨s, 4, none⟩ (.int .i64 (wrap64 (tot (absL gs) + n)))).drew) :
    ∃ b' cap' W5,
      W3.heap[s]? = some (.cells #[.map (some (g.maps 0)), .map (some (g.maps 1)), .map (some (g.maps 2)), .map (some (g.maps 3)), .int .i64 (wrap64 (tot (absL gs) + n)), .slice (g.lb.map fun b => ⟨b, 0, none⟩) (logsOf (absL gs)).length g.lcap, .slice (g.ub.map fun b => ⟨b, 0, none⟩) gs.length g.ucap] 64 (0, 0)) ∧
      W3.heap[w.heap.size]? = some (.cells #[.pointer (some ⟨s, 0, none⟩)] 26 (0, 0)) ∧ W3.heap.size = w.heap.size + 2 ∧
      (Builtin.append_ #[62, 62] ty #[.slice (g.ub.map fun b => ⟨b, 0, none⟩) gs.length g.ucap, .slice (some ⟨W3.heap.size, 0, none⟩) 1 1]).run Try.prog
        (W3.drew.alloc (.cells #[.func (.func 35) #[] #[.pointer (some ⟨w.heap.size, 0, none⟩), .pointer (some ⟨w.heap.size + 1, 0, none⟩)]] 1 (0, 0))) = .ok (.slice (some ⟨b', 0, none⟩) (gs.length + 1) cap') W5 ∧
      W5.heap[s]? = W3.heap[s]? ∧ W5.heap[w.heap.size]? = W3.heap[w.heap.size]? ∧ Turns w s (foot s g gs gs) (absL gs ++ [.refund n]) (W5.setCell ⟨s, 6, none⟩ (.slice (some ⟨b', 0, none⟩) (gs.length + 1) cap')) := by
  obtain ⟨o1, o2, hb⟩ := boxes2 w _ _ _ hW2
  have h2 := h.below hb
  have hs2 : W2.heap.size = w.heap.size + 2 := by rw [hW2, World.size_alloc, World.size_alloc]
  obtain ⟨c, hc⟩ : ∃ c : G, c = .refund n w.heap.size (w.heap.size + 1) := ⟨_, rfl⟩
  have hcok : G.ok W2 s g.maps c := by rw [hc]; exact ⟨o1, o2⟩
  have e : absL (gs ++ [c]) = absL gs ++ [.refund n] := by rw [hc]; exact absL_append _ _
  have hal : Alien 26 := by unfold Alien; decide
  obtain ⟨a1, _, _, a4⟩ := h2.alien o1 hal
  have hss : s < w.heap.size := lt_of_block h.set
  have h3 : SetC W3 s g (gs ++ [c]) gs := by
    rw [hW3]
    refine SetC.kept (h2.setRefund (now' := gs ++ [c]) (fun f => by rw [e, keysOf_refund]) (by rw [e, logsOf_snoc]; simp [logIn]) (by rw [logCells_snoc, hc]; simp [G.logCells]) (fun x hx => ?_) (by rw [e, tot_snoc]; rfl)) fun _ _ => rfl
    rcases List.mem_append.1 hx with r | r
    · exact .inl r
    · rw [List.mem_singleton.1 r]; exact .inr hcok
  have hk3 : ∀ k, k ≠ s → W3.heap[k]? = W2.heap[k]? := fun k hk => by rw [hW3]; exact setCell_other _ hk
  have hs3 : W3.heap.size = w.heap.size + 2 := by rw [hW3, World.size_drew]; simp [hs2]
  obtain ⟨b', cap', W5, q1, q2, q3, q4, q5, q6, q7, q8, q9⟩ := undo_world (h3.kept (W := W3.drew) fun _ _ => rfl) c (.inl (by simp)) hlen ty
  rw [show c.fn s = .func (.func 35) #[] #[.pointer (some ⟨w.heap.size, 0, none⟩), .pointer (some ⟨w.heap.size + 1, 0, none⟩)] by rw [hc]; rfl] at q1
  have hset := h3.set
  rw [e, tot_snoc, logsOf_snoc] at hset
  simp only [logIn, List.append_nil, addN] at hset
  have hsz3 : W3.drew.heap.size = W3.heap.size := rfl
  have ho3 : W3.heap[w.heap.size]? = some (.cells #[.pointer (some ⟨s, 0, none⟩)] 26 (0, 0)) := (hk3 _ a1).trans o1
  have hos : W3.os = w.os := by rw [hW3]; exact hb.os
  have htp : W3.tape = w.tape := by rw [hW3]; exact hb.tape
  have hou : W3.output = w.output := by rw [hW3]; exact hb.output
  refine ⟨b', cap', W5, hset, ho3, hs3, q1, q2 s (by rw [hsz3]; omega) (fun e2 => (h3.ub_ne e2).1 rfl), q2 _ (by rw [hsz3]; omega) a4, foot s { g with ub := some b', ucap := cap' } (gs ++ [c]) (gs ++ [c]), ⟨_, _, q4, e, rfl⟩, ?_⟩
  refine ⟨q7.trans hos, q8.trans htp, q9.trans hou, by simp; omega, fun k hk hnf => ?_, ?_⟩
  · have hne : k ≠ s := fun e2 => hnf (.inl e2)
    rw [setCell_other _ hne, q2 k (by rw [hsz3]; omega) (fun e2 => hnf (.inr (.inr (.inr (.inl e2)))))]
    exact (hk3 k hne).trans (hb.block k hk)
  · have hcf : ∀ k, c.foot k → w.heap.size ≤ k ∧ k < W5.heap.size := fun k hk => by
      rw [hc] at hk
      rcases hk with rfl | rfl <;> omega
    have hsz : (W5.setCell ⟨s, 6, none⟩ (.slice (some ⟨b', 0, none⟩) (gs.length + 1) cap')).heap.size = W5.heap.size := by simp
    rw [hsz]
    have hgs : ∀ k, (∃ x ∈ gs ++ [c], x.foot k) → foot s g gs gs k ∨ w.heap.size ≤ k ∧ k < W5.heap.size := by
      rintro k ⟨x, hx, hk⟩
      rcases List.mem_append.1 hx with r | r
      · exact .inl (.inr (.inr (.inr (.inr (.inl ⟨x, r, hk⟩)))))
      · rw [List.mem_singleton.1 r] at hk; exact .inr (hcf k hk)
    rintro k (rfl | hk | hk | hk | hk | hk)
    · exact .inl (.inl rfl)
    · exact .inl (.inr (.inl hk))
    · exact .inl (.inr (.inr (.inl hk)))
    · cases hk
      rcases q5 with q | q
      · exact .inl (.inr (.inr (.inr (.inl q))))
      · exact .inr ⟨by omega, q6⟩
    · exact hgs k hk
    · exact hgs k hk
set_option maxRecDepth 100000 in
set_option maxHeartbeats 1600000 in
theorem refund_c (h : SetC w s g gs gs) (n : Int) (hlen : gs.length < 1000000) :
    Calls Try.prog 22 #[.pointer (some ⟨s, 0, none⟩), .int .i64 n] w fun e w' => e = .returned (.tuple #[]) ∧ Turns w s (foot s g gs gs) (absL gs ++ [.refund n]) w' := by
  obtain ⟨W2, hW2⟩ : ∃ W2, W2 = (w.alloc (.cells #[.pointer (some ⟨s, 0, none⟩)] 26 (0, 0))).alloc (.cells #[.int .i64 n] 2 (0, 0)) := ⟨_, rfl⟩
  obtain ⟨o1, o2, hb⟩ := boxes2 w _ _ _ hW2
  have h2 := h.below hb
  have c1 := cell_of_one o1
  have c2 := cell_of_one o2
  obtain ⟨_, _, _, _, c4, _⟩ := h2.cells
  have f4 : W2.frozen? ⟨s, 4, none⟩ = false := frozen_of_row _ _ _ _ _ h2.set
  obtain ⟨W3, hW3⟩ : ∃ W3, W3 = (W2.setCell ⟨s, 4, none⟩ (.int .i64 (wrap64 (tot (absL gs) + n)))).drew := ⟨_, rfl⟩
  obtain ⟨b', cap', W5, r1, r2, r3, r4, r5, r6, r7⟩ := refund_world h n hlen 62 W2 W3 hW2 hW3
  have HR := Lib.hid r7
  have d1 := cell_of_one r2
  have d6 : W3.cell? ⟨s, 6, none⟩ = some (.slice (g.ub.map fun b => ⟨b, 0, none⟩) gs.length g.ucap) := by rw [cell_of_row _ _ _ _ _ _ r1]; rfl
  obtain ⟨W4, hW4⟩ : ∃ W4, W4 = W3.alloc (.cells #[.func (.func 35) #[] #[.pointer (some ⟨w.heap.size, 0, none⟩), .pointer (some ⟨w.heap.size + 1, 0, none⟩)]] 1 (0, 0)) := ⟨_, rfl⟩
  have hb4 : Below W3.heap.size W3 W4 := by rw [hW4]; exact (Below.refl _ _).alloc (Nat.le_refl _) _
  have e1 := cell_of_one ((hb4.block _ (lt_of_block r2)).trans r2)
  have e6 : W4.cell? ⟨s, 6, none⟩ = some (.slice (g.ub.map fun b => ⟨b, 0, none⟩) gs.length g.ucap) := by rw [cell_of_row _ _ _ _ _ _ ((hb4.block _ (lt_of_block r1)).trans r1)]; rfl
  have g1 := cell_of_one (r6.trans r2)
  have g6 : W5.cell? ⟨s, 6, none⟩ = some (.slice (g.ub.map fun b => ⟨b, 0, none⟩) gs.length g.ucap) := by rw [cell_of_row _ _ _ _ _ _ (r5.trans r1)]; rfl
  have g6f : W5.frozen? ⟨s, 6, none⟩ = false := frozen_of_row _ _ _ _ _ (r5.trans r1)
  have happ : (Builtin.append_ #[62, 62] 62 #[.slice (g.ub.map fun b => ⟨b, 0, none⟩) gs.length g.ucap, .slice (some ⟨W3.heap.size, 0, none⟩) 1 1]).run Try.prog W4.drew = .ok (.slice (some ⟨b', 0, none⟩) (gs.length + 1) cap') W5 := by rw [hW4]; exact r4
  obtain ⟨ua, hua⟩ : ∃ ua : Option Addr, ua = g.ub.map fun b => ⟨b, 0, none⟩ := ⟨_, rfl⟩
  obtain ⟨l, hl⟩ : ∃ l, l = gs.length := ⟨_, rfl⟩
  obtain ⟨t, ht⟩ : ∃ t, t = tot (absL gs) := ⟨_, rfl⟩
  rw [← hua, ← hl] at d6 e6 g6 happ
  rw [← hl] at HR
  rw [← ht] at c4 hW3
  have HW2 := Lib.hid hW2
  have HW3 := Lib.hid hW3
  have HW4 := Lib.hid hW4
  clear h h2 o1 o2 hb hW2 hW3 hW4 r1 r2 r3 r4 r5 r6 r7 hb4 hua hl ht hlen
  go_enter Try.func22, Try.ntmps22
  go_upto_region 1 with fail
  rw [← HW2.out]
  go_region
  go_upto_region 2 with fail
  rw [← HW3.out]
  have hw4 := HW4.out.symm
  have Happ := Lib.hid happ
  clear happ
  go_region_law (refine step_append_run rfl (.tmp 16) (.tmp 18) 62 62 rfl (.slice ua l g.ucap) (.slice (some ⟨W3.heap.size, 0, none⟩) 1 1) _ W5 (by simp [Act.eval]) (by simp [Act.eval]) Happ.out ?_)
  all_goals go_wp2_with fail
  all_goals go_end0
  all_goals exact ⟨rfl, HR.out⟩
end
end Go.Proofs.Ytgjaennilkhejaa
