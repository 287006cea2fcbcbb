/- The walks of what takes a change back, and of Back. The bound: at most 10^6 changes. -/
import Derived.Test.YtgjaennilkhejaaWRefund
namespace Go.Proofs.Ytgjaennilkhejaa
open Go.RowKit
attribute [local go_sem ↓] Go.wp_at_zero Go.wp_at_succ
def G.call (s : Nat) : G → FuncId × Array Value
  | .key f _ bm bk => (fK f, #[.pointer (some ⟨bm, 0, none⟩), .pointer (some ⟨bk, 0, none⟩)])
  | .refund _ bs bn => (35, #[.pointer (some ⟨bs, 0, none⟩), .pointer (some ⟨bn, 0, none⟩)])
  | .log _ _ _ => (32, #[.pointer (some ⟨s, 0, none⟩)])
section
variable {w : World} {s : Nat} {g : Gs} {now und : List G}
theorem foot_less {k : Nat} {c : G} (h : foot s g now und k) : foot s g (now ++ [c]) und k := by
  rcases h with h | h | h | h | ⟨x, hx, hk⟩ | h
  · exact .inl h
  · exact .inr (.inl h)
  · exact .inr (.inr (.inl h))
  · exact .inr (.inr (.inr (.inl h)))
  · exact .inr (.inr (.inr (.inr (.inl ⟨x, List.mem_append_left _ hx, hk⟩))))
  · exact .inr (.inr (.inr (.inr (.inr h))))
theorem But.eff {W : World} {b : Nat} {c : G} (h : But w W b) (hb : foot s g (now ++ [c]) und b) : Eff (foot s g (now ++ [c]) und) w (foot s g now und) W :=
  ⟨h.os, h.tape, h.output, by rw [h.size]; exact Nat.le_refl _, fun k _ hn => h.block k fun e => hn (e ▸ hb), fun _ hk => .inl (foot_less hk)⟩
theorem setCell_but (w : World) (b i : Nat) (v : Value) : But w (w.setCell ⟨b, i, none⟩ v).drew b := ⟨rfl, rfl, rfl, by show (w.setCell ⟨b, i, none⟩ v).heap.size = _; simp, fun k hk => setCell_other v hk⟩
set_option maxRecDepth 100000 in
theorem unkey_c {f : Fin 4} {v : Value} {bm bk : Nat} (h : SetC w s g (now ++ [.key f v bm bk]) und) :
    Calls Try.prog (fK f) #[.pointer (some ⟨bm, 0, none⟩), .pointer (some ⟨bk, 0, none⟩)] w fun e w' => e = .returned (.tuple #[]) ∧ SetC w' s g now und ∧ Eff (foot s g (now ++ [.key f v bm bk]) und) w (foot s g now und) w' := by
  obtain ⟨W, hd, h1, h2⟩ := h.drop 0
  have he := h2.eff (s := s) (g := g) (now := now) (und := und) (c := .key f v bm bk) (.inr (.inl ⟨f, rfl⟩))
  have hok := h.okN (.key f v bm bk) (by simp)
  obtain ⟨k1, k2, k3⟩ := hok
  have HR := Lib.hid (And.intro h1 he)
  clear h h1 h2 he
  obtain ⟨m, hm⟩ : ∃ m, m = g.maps f := ⟨_, rfl⟩
  rw [← hm] at hd k2
  clear hm
  by_cases hf : f = 1
  · subst hf
    obtain ⟨⟨a, k, rfl⟩, _⟩ : SlotOk v := k1
    rw [show tM 1 = 61 from rfl] at hd k2
    rw [show tK 1 = 67 from rfl] at hd k3
    rw [show fK 1 = 45 from rfl]
    have c1 := cell_of_one k2
    have c20 : w.cell? ⟨bk, 0, none⟩ = some (.string a) := by rw [cell_of_row _ _ _ _ _ _ k3]; rfl
    have c21 : w.cell? ⟨bk, 1, none⟩ = some (.int .u64 k.a) := by rw [cell_of_row _ _ _ _ _ _ k3]; rfl
    have c22 : w.cell? ⟨bk, 2, none⟩ = some (.int .u64 k.b) := by rw [cell_of_row _ _ _ _ _ _ k3]; rfl
    have c23 : w.cell? ⟨bk, 3, none⟩ = some (.int .u64 k.c) := by rw [cell_of_row _ _ _ _ _ _ k3]; rfl
    have c24 : w.cell? ⟨bk, 4, none⟩ = some (.int .u64 k.d) := by rw [cell_of_row _ _ _ _ _ _ k3]; rfl
    unfold slotV at hd
    clear k2 k3
    go_enter Try.func45, Try.ntmps45
    go_wp2_with fail
    go_end0
    exact ⟨rfl, HR.out⟩
  · obtain ⟨a, rfl⟩ : StrOk v := by unfold okK at k1; rw [if_neg hf] at k1; exact k1
    rw [show tM f = 60 by unfold tM; rw [if_neg hf]] at hd k2
    rw [show tK f = 9 by unfold tK; rw [if_neg hf]] at hd k3
    rw [show fK f = 46 by unfold fK; rw [if_neg hf]]
    have c1 := cell_of_one k2
    have c2 := cell_of_one (v := .string a) k3
    clear k1 k2 k3 hf
    go_enter Try.func46, Try.ntmps46
    go_wp2_with fail
    go_end0
    exact ⟨rfl, HR.out⟩
theorem wrap_back (t n : Int) (h : -9223372036854775808 ≤ t ∧ t ≤ 9223372036854775807) : wrap64 (wrap64 (t + n) - n) = t := by unfold wrap64; omega
theorem wrap_in (t : Int) : -9223372036854775808 ≤ wrap64 t ∧ wrap64 t ≤ 9223372036854775807 := by unfold wrap64; omega
theorem tot_in (L : List Ch) : -9223372036854775808 ≤ tot L ∧ tot L ≤ 9223372036854775807 := by
  have : ∀ (L : List Ch) (t : Int), (-9223372036854775808 ≤ t ∧ t ≤ 9223372036854775807) → -9223372036854775808 ≤ L.foldl addN t ∧ L.foldl addN t ≤ 9223372036854775807 := by
    intro L
    induction L with
    | nil => intro t h; exact h
    | cons c r ih =>
      intro t h
      refine ih _ ?_
      cases c with
      | key f v => exact h
      | refund n => exact wrap_in _
      | log l => exact h
  exact this L 0 (by omega)
set_option maxRecDepth 100000 in
theorem unrefund_c {n : Int} {bs bn : Nat} (h : SetC w s g (now ++ [.refund n bs bn]) und) :
    Calls Try.prog 35 #[.pointer (some ⟨bs, 0, none⟩), .pointer (some ⟨bn, 0, none⟩)] w fun e w' => e = .returned (.tuple #[]) ∧ SetC w' s g now und ∧ Eff (foot s g (now ++ [.refund n bs bn]) und) w (foot s g now und) w' := by
  have e : absL (now ++ [.refund n bs bn]) = absL now ++ [.refund n] := absL_append _ _
  obtain ⟨o1, o2⟩ := h.okN (.refund n bs bn) (by simp)
  have hset := h.set
  rw [e, tot_snoc] at hset
  simp only [addN] at hset
  obtain ⟨t, ht⟩ : ∃ t, t = wrap64 (tot (absL now) + n) := ⟨_, rfl⟩
  have hback : wrap64 (t - n) = tot (absL now) := by rw [ht]; exact wrap_back _ _ (tot_in _)
  rw [← ht] at hset
  have h1 : SetC (w.setCell ⟨s, 4, none⟩ (.int .i64 (wrap64 (t - n)))) s g now und := h.setRefund (fun f => by rw [e, keysOf_refund]) (by rw [e, logsOf_snoc]; simp [logIn]) (by rw [logCells_snoc]; simp [G.logCells]) (fun x hx => .inl (List.mem_append_left _ hx)) hback
  have h2 : SetC (w.setCell ⟨s, 4, none⟩ (.int .i64 (wrap64 (t - n)))).drew s g now und := h1.kept fun _ _ => rfl
  have he := (setCell_but w s 4 (.int .i64 (wrap64 (t - n)))).eff (s := s) (g := g) (now := now) (und := und) (c := .refund n bs bn) (.inl rfl)
  have c1 := cell_of_one o1
  have c2 := cell_of_one o2
  have c4 : w.cell? ⟨s, 4, none⟩ = some (.int .i64 t) := by rw [cell_of_row _ _ _ _ _ _ hset]; rfl
  have f4 : w.frozen? ⟨s, 4, none⟩ = false := frozen_of_row _ _ _ _ _ hset
  have HR := Lib.hid (And.intro h2 he)
  clear h e o1 o2 hset ht hback h1 h2 he
  go_enter Try.func35, Try.ntmps35
  go_wp2_with fail
  go_region
  go_wp2_with fail
  go_end0
  exact ⟨rfl, HR.out⟩
set_option maxRecDepth 100000 in
theorem unlog_c {l : Lg} {tb : Option Nat} {tc : Nat} (h : SetC w s g (now ++ [.log l tb tc]) und) (hlen : now.length < 1000000) :
    Calls Try.prog 32 #[.pointer (some ⟨s, 0, none⟩)] w fun e w' => e = .returned (.tuple #[]) ∧ SetC w' s g now und ∧ Eff (foot s g (now ++ [.log l tb tc]) und) w (foot s g now und) w' := by
  have e : absL (now ++ [.log l tb tc]) = absL now ++ [.log l] := absL_append _ _
  have el : logsOf (absL (now ++ [.log l tb tc])) = logsOf (absL now) ++ [l] := by rw [e, logsOf_snoc]; rfl
  obtain ⟨n, hn⟩ : ∃ n, n = (logsOf (absL now)).length := ⟨_, rfl⟩
  have en : (logsOf (absL (now ++ [.log l tb tc]))).length = n + 1 := by rw [el, List.length_append, ← hn]; rfl
  have hnl : n ≤ now.length := by
    rw [hn]
    have : (logsOf (absL now)).length ≤ (absL now).length := List.length_filterMap_le _ _
    rw [show (absL now).length = now.length by simp [absL]] at this
    exact this
  have hset := h.set
  have hrow := h.logs
  rw [en] at hset hrow
  obtain ⟨b, hb⟩ : ∃ b, g.lb = some b := by
    cases hg : g.lb with
    | none => rw [hg] at hrow; obtain ⟨_, h0, _⟩ := hrow.nil; omega
    | some b => exact ⟨b, rfl⟩
  have hrow2 := hrow.take (m := n) (by omega)
  have hcells : (logCells (now ++ [.log l tb tc])).take (n * 3) = logCells now := by
    have hlen2 : (logCells now).length = n * 3 := by
      have := hrow.1
      rw [logCells_snoc] at this
      simp [G.logCells] at this
      omega
    rw [logCells_snoc, List.take_left' hlen2]
  rw [hcells] at hrow2
  have h1 : SetC (w.setCell ⟨s, 5, none⟩ (.slice (g.lb.map fun b => ⟨b, 0, none⟩) n g.lcap)) s g now und := by
    have := h.setLogs (W := w) (now' := now) (lb := g.lb) (lcap := g.lcap) ⟨rfl, rfl, rfl, Nat.le_refl _, fun _ _ _ => rfl⟩ (by rw [← hn]; exact hrow2) (.inl rfl) (fun f => by rw [e, keysOf_log]) (by rw [e, tot_snoc]; rfl) (fun x hx => .inl (List.mem_append_left _ hx))
    rw [← hn] at this
    exact this
  have h2 : SetC (w.setCell ⟨s, 5, none⟩ (.slice (g.lb.map fun b => ⟨b, 0, none⟩) n g.lcap)).drew s g now und := h1.kept fun _ _ => rfl
  have he := (setCell_but w s 5 (.slice (g.lb.map fun b => ⟨b, 0, none⟩) n g.lcap)).eff (s := s) (g := g) (now := now) (und := und) (c := .log l tb tc) (.inl rfl)
  have c5 : w.cell? ⟨s, 5, none⟩ = some (.slice (g.lb.map fun b => ⟨b, 0, none⟩) (n + 1) g.lcap) := by rw [cell_of_row _ _ _ _ _ _ hset]; rfl
  have f5 : w.frozen? ⟨s, 5, none⟩ = false := frozen_of_row _ _ _ _ _ hset
  have hcap : (n : Int) + 1 ≤ (g.lcap : Int) := by have := hrow.2.1; omega
  have hn0 : (0 : Int) ≤ (n : Int) := by omega
  have hn1 : (n : Int) ≤ 1000000 := by omega
  have HR := Lib.hid (And.intro h2 he)
  rw [hb] at c5 HR
  clear h e el en hn hnl hset hrow hb hrow2 hcells h1 h2 he hlen
  go_enter Try.func32, Try.ntmps32
  go_wp2_with fail
  go_region
  go_wp2_with fail
  go_end0
  exact ⟨rfl, HR.out⟩
theorem undo_c {c : G} (h : SetC w s g (now ++ [c]) und) (hlen : now.length < 1000000) :
    Calls Try.prog (c.call s).1 (c.call s).2 w fun e w' => e = .returned (.tuple #[]) ∧ SetC w' s g now und ∧ Eff (foot s g (now ++ [c]) und) w (foot s g now und) w' := by
  cases c with
  | key f v bm bk => exact unkey_c h
  | refund n bs bn => exact unrefund_c h
  | log l tb tc => exact unlog_c h hlen
theorem call_enter (s : Nat) (c : G) : ∀ args (w : World), (callFunc (c.call s).1 args).run Try.prog w = .ok (.enter (c.call s).1 args) w := by
  cases c with
  | key f v bm bk =>
    by_cases hf : f = 1
    · subst hf; intro args w; kernel_rfl
    · show ∀ args (w : World), (callFunc (fK f) args).run Try.prog w = .ok (.enter (fK f) args) w
      rw [show fK f = 46 by unfold fK; rw [if_neg hf]]
      intro args w; kernel_rfl
  | refund n bs bn => intro args w; kernel_rfl
  | log l tb tc => intro args w; kernel_rfl
end
theorem fn_forms (s : Nat) (c : G) : ∃ f, (∃ cap, c.fn s = .func (.func f) #[] cap ∧ c.call s = (f, cap)) ∨ ∃ p, c.fn s = .func (.func f) #[p] #[] ∧ c.call s = (f, #[p]) := by
  cases c with
  | key f v bm bk => exact ⟨_, .inl ⟨_, rfl, rfl⟩⟩
  | refund n bs bn => exact ⟨_, .inl ⟨_, rfl, rfl⟩⟩
  | log l tb tc => exact ⟨_, .inr ⟨_, rfl, rfl⟩⟩
section
variable {w : World} {s : Nat} {g : Gs} {gs : List G}
/-- The world behind the cut of what can be taken back. -/
theorem back_world {w0 : World} (m : Nat) (hm : m ≤ gs.length) (h : SetC w s g (gs.take m) gs) (hE : Eff (foot s g gs gs) w0 (foot s g (gs.take m) gs) w) :
    Turns w0 s (foot s g gs gs) ((absL gs).take m) (w.setCell ⟨s, 6, none⟩ (.slice (g.ub.map fun b => ⟨b, 0, none⟩) m g.ucap)) := by
  have hl : (gs.take m).length = m := by rw [List.length_take]; omega
  have hr := h.undo.take (m := m) hm
  rw [Nat.mul_one, ← List.map_take] at hr
  have h1 := h.setUndo (W := w) (und' := gs.take m) (ub := g.ub) (ucap := g.ucap) ⟨rfl, rfl, rfl, Nat.le_refl _, fun _ _ _ => rfl⟩ (by rw [hl]; exact hr) (.inl rfl) (fun c hc => .inl (List.mem_of_mem_take hc))
  rw [hl] at h1
  refine ⟨foot s g (gs.take m) (gs.take m), ⟨g, gs.take m, h1, List.map_take, rfl⟩, hE.trans ⟨rfl, rfl, rfl, by simp, fun k _ hn => setCell_other _ fun e => hn (.inl e), fun k hk => .inl ?_⟩⟩
  rcases hk with h | h | h | h | h | ⟨x, hx, hk⟩
  · exact .inl h
  · exact .inr (.inl h)
  · exact .inr (.inr (.inl h))
  · exact .inr (.inr (.inr (.inl h)))
  · exact .inr (.inr (.inr (.inr (.inl h))))
  · exact .inr (.inr (.inr (.inr (.inr ⟨x, List.mem_of_mem_take hx, hk⟩))))
set_option maxRecDepth 100000 in
theorem back_bad (h : SetC w s g gs gs) (m : Int) (hm : m < 0 ∨ ((absL gs).length : Int) < m) : Calls Try.prog 20 #[.pointer (some ⟨s, 0, none⟩), .int .i64 m] w fun e w' => e = .returned (.bool false) ∧ w = w' := by
  obtain ⟨_, _, _, _, _, _, c6⟩ := h.cells
  rw [show (absL gs).length = gs.length by simp [absL]] at hm
  obtain ⟨l, hl⟩ : ∃ l, l = gs.length := ⟨_, rfl⟩
  rw [← hl] at hm c6
  obtain ⟨ua, hua⟩ : ∃ ua : Option Addr, ua = g.ub.map fun b => ⟨b, 0, none⟩ := ⟨_, rfl⟩
  rw [← hua] at c6
  clear h hl hua
  rcases hm with hm | hm
  · go_enter Try.func20, Try.ntmps20
    go_wp2_with fail
    all_goals go_ret
    all_goals exact ⟨rfl, rfl⟩
  · have hm0 : ¬ m < 0 := by omega
    go_enter Try.func20, Try.ntmps20
    go_wp2_with fail
    all_goals go_ret
    all_goals exact ⟨rfl, rfl⟩
set_option maxRecDepth 100000 in
set_option maxHeartbeats 1600000 in
theorem back_ok (h : SetC w s g gs gs) (m : Nat) (hm : m ≤ gs.length) (hlen : gs.length < 1000000) :
    Calls Try.prog 20 #[.pointer (some ⟨s, 0, none⟩), .int .i64 (m : Int)] w fun e w' => e = .returned (.bool true) ∧ Turns w s (foot s g gs gs) ((absL gs).take m) w' := by
  obtain ⟨_, _, _, _, _, _, c6⟩ := h.cells
  obtain ⟨l, hl⟩ : ∃ l, l = gs.length := ⟨_, rfl⟩
  rw [← hl] at hm c6 hlen
  obtain ⟨ua, hua⟩ : ∃ ua : Option Addr, ua = g.ub.map fun b => ⟨b, 0, none⟩ := ⟨_, rfl⟩
  rw [← hua] at c6
  have hm' : (m : Int) ≤ (l : Int) := by omega
  have hl' : (l : Int) ≤ 1000000 := by omega
  have hq1 : decide (l < m) = false := decide_eq_false (by omega)
  have hq2 : decide ((m : Int) < 0) = false := decide_eq_false (by omega)
  have H := Lib.hid (And.intro h (And.intro hl hua))
  clear h hl hua hm
  go_enter Try.func20, Try.ntmps20
  go_wp2_with fail
  go_loopw [5] (fun v wr => ∃ (k : Int) (j : Nat), v = .int .i64 k ∧ k + 1 = (j : Int) ∧ m ≤ j ∧ j ≤ l ∧ SetC wr s g (gs.take j) gs ∧ Eff (foot s g gs gs) w (foot s g (gs.take j) gs) wr) (fun v _ => (intOf v + 1 - m).toNat)
  case atStart =>
    refine ⟨_, l, rfl, by omega, by omega, Nat.le_refl _, ?_⟩
    rw [H.out.2.1, List.take_length]
    exact ⟨H.out.1, Eff.refl _ _⟩
  case round =>
    obtain ⟨k, j, rfl, hkj, hmj, hjl, hC, hE⟩ := hrel
    have hset := hC.set
    rw [← H.out.2.1, ← H.out.2.2] at hset
    have d6 : wr.cell? ⟨s, 6, none⟩ = some (.slice ua l g.ucap) := by rw [cell_of_row _ _ _ _ _ _ hset]; rfl
    have f6 : wr.frozen? ⟨s, 6, none⟩ = false := frozen_of_row _ _ _ _ _ hset
    clear hset
    by_cases hk : (m : Int) ≤ k
    · obtain ⟨i, rfl⟩ : ∃ i : Nat, k = (i : Int) := ⟨k.toNat, by omega⟩
      obtain rfl : j = i + 1 := by omega
      have hil : i < gs.length := by have := H.out.2.1; omega
      obtain ⟨c, hc⟩ : ∃ c, c = gs[i] := ⟨_, rfl⟩
      have hu := hC.undo
      obtain ⟨b, hb, hcell⟩ := hu.cell i (by simpa using hil)
      rw [List.getElem_map, ← hc] at hcell
      have hua : ua = some ⟨b, 0, none⟩ := by rw [H.out.2.2, hb]; rfl
      rw [hua] at d6
      rw [List.take_succ_eq_append_getElem hil, ← hc] at hC hE
      have hcall := undo_c hC (by rw [List.length_take]; omega)
      have hen := call_enter s c
      have Hs := Lib.hid (And.intro hcall hE)
      have hi0 : (0 : Int) ≤ (i : Int) := by omega
      have hil' : (i : Int) < (l : Int) := by omega
      have hmi : m ≤ i := by omega
      have Hh := Lib.hid (And.intro hmi hil)
      clear hcall hC hE hu hb hua hc hmj hjl hkj hmi hil f6
      obtain ⟨f, ⟨cap, hf1, hf2⟩ | ⟨p, hf1, hf2⟩⟩ := fn_forms s c
      · rw [hf1] at hcell
        rw [hf2] at hen Hs
        clear hf1 hf2
        go_wp2_with fail
        refine Hs.out.1.mono ?_
        rintro e w1 ⟨rfl, hC1, hE1⟩
        have HX := Lib.hid (And.intro hC1 hE1)
        clear hC1 hE1
        go_wp2_with fail
        exact ⟨⟨(i : Int) - 1, i, rfl, by omega, Hh.out.1, by omega, HX.out.1, Hs.out.2.trans HX.out.2⟩, by simp [intOf]; omega⟩
      · rw [hf1] at hcell
        rw [hf2] at hen Hs
        clear hf1 hf2
        go_wp2_with fail
        refine Hs.out.1.mono ?_
        rintro e w1 ⟨rfl, hC1, hE1⟩
        have HX := Lib.hid (And.intro hC1 hE1)
        clear hC1 hE1
        go_wp2_with fail
        exact ⟨⟨(i : Int) - 1, i, rfl, by omega, Hh.out.1, by omega, HX.out.1, Hs.out.2.trans HX.out.2⟩, by simp [intOf]; omega⟩
    · obtain rfl : j = m := by omega
      have hcap := hC.undo.2.1
      rw [← H.out.2.1] at hcap
      have hfin := back_world j (by have := H.out.2.1; omega) hC hE
      rw [← H.out.2.2] at hfin
      have Hf := Lib.hid hfin
      have hcap' : (l : Int) ≤ (g.ucap : Int) := by omega
      have hn0 : ua = none → l = 0 ∧ g.ucap = 0 := fun e => by
        have hu := hC.undo
        rw [H.out.2.2] at e
        cases hg : g.ub with
        | none => rw [hg] at hu; have := hu.nil; rw [H.out.2.1]; exact this.2
        | some b => rw [hg] at e; cases e
      cases hua : ua with
      | none =>
        obtain ⟨h1, h2⟩ := hn0 hua
        have hj0 : j = 0 := by omega
        rw [hua] at d6 Hf
        rw [h2] at d6 Hf
        subst hj0
        subst h1
        clear hn0 hua hfin hcap hcap' hC hE hkj hmj hjl h2
        go_wp2_with fail
        go_ret
        exact ⟨rfl, Hf.out⟩
      | some ab =>
        rw [hua] at d6 Hf
        have hj0 : (0 : Int) ≤ (j : Int) := by omega
        have hjc : (j : Int) ≤ (g.ucap : Int) := by omega
        clear hn0 hua hfin hcap hcap' hC hE hkj hmj hjl
        go_wp2_with fail
        go_ret
        exact ⟨rfl, Hf.out⟩
end
end Go.Proofs.Ytgjaennilkhejaa
