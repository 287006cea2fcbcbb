/- The walks of Log and Logs of the reference of chapter 11. The bound: at most 10^6 changes; topics that Go lets one have. -/
import Derived.Test.YtgjaennilkhejaaWRefApi
namespace Go.Proofs.Ytgjaennilkhejaa
open Go.RowKit
attribute [local go_sem ↓] Go.wp_at_zero Go.wp_at_succ
section
variable {w : World} {x : Nat} {rb : Option Nat} {cap : Nat} {rs : List R}
set_option maxRecDepth 100000 in
set_option maxHeartbeats 1600000 in
theorem rlog_c (h : RefC w x rb cap rs) (l : Lg) (a : Option Addr) (cp : Nat) (hv : VArg 4 w a cp l.topics.length (W4s l.topics)) (hby : l.topics.length * 32 ≤ 281474976710656) (hlen : rs.length < 1000000) :
    Calls Try.prog 42 #[.pointer (some ⟨x, 0, none⟩), .agg #[.string l.addr, .slice a l.topics.length cp, .string l.data]] w fun e w' => e = .returned (.tuple #[]) ∧ RTurns w x (rfoot x rb rs) (rabs rs ++ [.log l]) w' := by
  obtain ⟨i, hi, hz, hsz, hbb⟩ := info_parts info_word
  obtain ⟨W1, hW1⟩ : ∃ W1, W1 = w.alloc (.cells #[.string l.addr, .slice a l.topics.length cp, .string l.data] 34 (0, 0)) := ⟨_, rfl⟩
  have hb1 : Below w.heap.size w W1 := by rw [hW1]; exact (Below.refl _ _).alloc (Nat.le_refl _) _
  have hs1 : W1.heap.size = w.heap.size + 1 := by rw [hW1]; exact World.size_alloc _ _
  have o1 : W1.heap[w.heap.size]? = some (.cells #[.string l.addr, .slice a l.topics.length cp, .string l.data] 34 (0, 0)) := by rw [hW1]; exact heap_alloc_new w _
  have c1 : W1.cell? ⟨w.heap.size, 1, none⟩ = some (.slice a l.topics.length cp) := by rw [cell_of_row _ _ _ _ _ _ o1]; rfl
  obtain ⟨tb, tc, W2, p1, p2, p3, p4⟩ := run_append_none W1 32 32 24 i _ Try.underlying32 hi hz (by rw [hsz]; rfl) (by omega) a cp l.topics.length (W4s l.topics) (by rw [hsz]; exact hv.below hb1) (by omega) (by rw [hbb]; exact hby)
  rw [hsz] at p2
  have hs2 := p4.size
  have o2 : W2.heap[w.heap.size]? = _ := (p4.block _ (by omega)).trans o1
  have d1 : W2.cell? ⟨w.heap.size, 1, none⟩ = some (.slice a l.topics.length cp) := by rw [cell_of_row _ _ _ _ _ _ o2]; rfl
  have d1f : W2.frozen? ⟨w.heap.size, 1, none⟩ = false := frozen_of_row _ _ _ _ _ o2
  obtain ⟨W3, hW3⟩ : ∃ W3, W3 = W2.setCell ⟨w.heap.size, 1, none⟩ (.slice (tb.map fun b => ⟨b, 0, none⟩) l.topics.length tc) := ⟨_, rfl⟩
  have hs3 : W3.heap.size = W2.heap.size := by rw [hW3]; simp
  have o3 : W3.heap[w.heap.size]? = some (.cells #[.string l.addr, .slice (tb.map fun b => ⟨b, 0, none⟩) l.topics.length tc, .string l.data] 34 (0, 0)) := by rw [hW3, setCell_block _ o2]; rfl
  have hb3 : Below w.heap.size w W3 := by rw [hW3]; exact (hb1.trans (p4.mono hb1.size)).setCell (p := ⟨w.heap.size, 1, none⟩) (Nat.le_refl _) _
  have hok : R.ok W3.drew (.log l tb tc) := by
    have h1 : VRow 24 4 W3.drew tb tc l.topics.length (W4s l.topics) := p2.kept fun b e => by
      show W3.heap[b]? = _
      rw [hW3]; exact setCell_other _ (by have := p3 b e; omega)
    exact h1
  obtain ⟨b', cap', W, r1, r2, r3, r4, r5⟩ := ref_world h (.log l tb tc) W3.drew (hb3.trans ⟨rfl, rfl, rfl, Nat.le_refl _, fun _ _ => rfl⟩) hok (fun k hk => by have := p3 k hk; omega) hlen 53
  have hx3 := (h.below hb3).set
  have hxl := lt_of_block hx3
  have hQl := lt_of_block o3
  obtain ⟨W4, hW4⟩ : ∃ W4, W4 = W3.alloc (.cells #[.int .i64 5, .string ⟨#[]⟩, .int .u64 0, .int .u64 0, .int .u64 0, .int .u64 0, .int .i64 0, .string l.addr, .slice (tb.map fun b => ⟨b, 0, none⟩) l.topics.length tc, .string l.data] 75 (0, 0)) := ⟨_, rfl⟩
  have happ : (Builtin.append_ #[53, 53] 53 #[.slice (rb.map fun b => ⟨b, 0, none⟩) rs.length cap, .slice (some ⟨W3.heap.size, 0, none⟩) 1 1]).run Try.prog W4.drew = .ok (.slice (some ⟨b', 0, none⟩) (rs.length + 1) cap') W := by rw [hW4]; exact r1
  obtain ⟨Q, hQ⟩ : ∃ Q, Q = w.heap.size := ⟨_, rfl⟩
  rw [← hQ] at o1 o2 o3 c1 d1 d1f hW3 hQl
  have e0 : W3.cell? ⟨Q, 0, none⟩ = some (.string l.addr) := by rw [cell_of_row _ _ _ _ _ _ o3]; rfl
  have e1 : W3.cell? ⟨Q, 1, none⟩ = some (.slice (tb.map fun b => ⟨b, 0, none⟩) l.topics.length tc) := by rw [cell_of_row _ _ _ _ _ _ o3]; rfl
  have e2 : W3.cell? ⟨Q, 2, none⟩ = some (.string l.data) := by rw [cell_of_row _ _ _ _ _ _ o3]; rfl
  have x0 : W3.cell? ⟨x, 0, none⟩ = some (.slice (rb.map fun b => ⟨b, 0, none⟩) rs.length cap) := by rw [cell_of_row _ _ _ _ _ _ hx3]; rfl
  have o4 : W4.heap[Q]? = _ := (by rw [hW4]; exact heap_alloc_old _ _ hQl : W4.heap[Q]? = W3.heap[Q]?).trans o3
  have x4 : W4.heap[x]? = _ := (by rw [hW4]; exact heap_alloc_old _ _ hxl : W4.heap[x]? = W3.heap[x]?).trans hx3
  have g0 : W4.cell? ⟨Q, 0, none⟩ = some (.string l.addr) := by rw [cell_of_row _ _ _ _ _ _ o4]; rfl
  have g1 : W4.cell? ⟨Q, 1, none⟩ = some (.slice (tb.map fun b => ⟨b, 0, none⟩) l.topics.length tc) := by rw [cell_of_row _ _ _ _ _ _ o4]; rfl
  have g2 : W4.cell? ⟨Q, 2, none⟩ = some (.string l.data) := by rw [cell_of_row _ _ _ _ _ _ o4]; rfl
  have y0 : W4.cell? ⟨x, 0, none⟩ = some (.slice (rb.map fun b => ⟨b, 0, none⟩) rs.length cap) := by rw [cell_of_row _ _ _ _ _ _ x4]; rfl
  have x5 := r3.trans h.set
  have z0 : W.cell? ⟨x, 0, none⟩ = some (.slice (rb.map fun b => ⟨b, 0, none⟩) rs.length cap) := by rw [cell_of_row _ _ _ _ _ _ x5]; rfl
  have z0f : W.frozen? ⟨x, 0, none⟩ = false := frozen_of_row _ _ _ _ _ x5
  obtain ⟨ra, hra⟩ : ∃ ra : Option Addr, ra = rb.map fun b => ⟨b, 0, none⟩ := ⟨_, rfl⟩
  obtain ⟨ta, hta⟩ : ∃ ta : Option Addr, ta = tb.map fun b => ⟨b, 0, none⟩ := ⟨_, rfl⟩
  obtain ⟨nt, hnt⟩ : ∃ nt, nt = l.topics.length := ⟨_, rfl⟩
  obtain ⟨n, hn⟩ : ∃ n, n = rs.length := ⟨_, rfl⟩
  rw [← hn, ← hra] at happ x0 y0 z0
  rw [← hn] at r5
  rw [← hta] at e1 g1 hW3 hW4 p1
  rw [← hnt] at e1 g1 hW3 hW4 p1 c1 d1 hW1
  rw [← hnt]
  have HR := Lib.hid r5
  have Happ := Lib.hid happ
  have HW4 := Lib.hid hW4
  have HW3 := Lib.hid hW3
  have HW1 := Lib.hid hW1
  have Hp := Lib.hid p1
  have HQ := Lib.hid hQ
  clear h hv hby hlen hi hz hsz hbb hW1 hb1 hs1 o1 p1 p2 p3 p4 hs2 o2 hW3 hs3 o3 hb3 hok r1 r2 r3 r4 r5 hx3 hxl hQl hW4 happ hQ o4 x4 x5 hra hta hnt hn
  go_enter Try.func42, Try.ntmps42
  go_upto_region 1 with fail
  rw [← HW1.out, ← HQ.out]
  go_wp2_with (at_builtin; refine wpList_append_run _ _ 32 32 _ _ _ W2 (by rfl) (by rfl) Hp.out ?_; go_frame)
  rw [← HW3.out]
  clear c1 d1 d1f
  have hw4 := HW4.out.symm
  go_region_law (refine step_append_run rfl (.tmp 12) (.tmp 15) 53 53 rfl (.slice ra n cap) (.slice (some ⟨W3.heap.size, 0, none⟩) 1 1) _ W (by simp [Act.eval]) (by simp [Act.eval]) Happ.out ?_)
  all_goals go_wp2_with fail
  all_goals go_end0
  all_goals exact ⟨rfl, HR.out⟩
def rlog : R → Option (Lg × Option Nat × Nat)
  | .log l tb tc => some (l, tb, tc)
  | _ => none
def rlogs (rs : List R) : List (Lg × Option Nat × Nat) := rs.filterMap rlog
theorem rlogs_abs (rs : List R) : (rlogs rs).map (·.1) = logsOf (rabs rs) := by
  induction rs with
  | nil => rfl
  | cons r t ih =>
    cases r with
    | key f a k => exact ih
    | refund n => exact ih
    | log l tb tc => exact congrArg (l :: ·) ih
theorem rlogs_take (rs : List R) (j : Nat) (hj : j < rs.length) : rlogs (rs.take (j + 1)) = rlogs (rs.take j) ++ (match rlog rs[j] with | some y => [y] | none => []) := by
  unfold rlogs
  rw [List.take_succ_eq_append_getElem hj, List.filterMap_append]
  cases h : rlog rs[j] <;> simp [h]
/-- One log more. -/
theorem run_append_log (w : World) (ty : TypeId) (gb : Option Nat) (cp : Nat) (ws : List (Lg × Option Nat × Nat)) (hr : VRow 34 3 w gb cp ws.length (ws.flatMap lgCells)) (y : Lg × Option Nat × Nat) (hn : ws.length < 1000000) :
    ∃ b' cap' W, (Builtin.append_ #[31, 31] ty #[.slice (gb.map fun b => ⟨b, 0, none⟩) ws.length cp, .slice (some ⟨w.heap.size, 0, none⟩) 1 1]).run Try.prog
        (w.alloc (.cells #[.string y.1.addr, .slice (y.2.1.map fun b => ⟨b, 0, none⟩) y.1.topics.length y.2.2, .string y.1.data] 34 (0, 0))) = .ok (.slice (some ⟨b', 0, none⟩) (ws.length + 1) cap') W ∧
      VRow 34 3 W (some b') cap' (ws ++ [y]).length ((ws ++ [y]).flatMap lgCells) ∧ (gb = some b' ∨ w.heap.size ≤ b') ∧ w.grownBy W gb := by
  obtain ⟨i, hi, hz, hsz, hby⟩ := info_parts info_log
  obtain ⟨w1, hw1⟩ : ∃ w1, w1 = w.alloc (.cells #[.string y.1.addr, .slice (y.2.1.map fun b => ⟨b, 0, none⟩) y.1.topics.length y.2.2, .string y.1.data] 34 (0, 0)) := ⟨_, rfl⟩
  have hbel : Below w.heap.size w w1 := by rw [hw1]; exact (Below.refl _ _).alloc (Nat.le_refl _) _
  have hs1 : w1.heap.size = w.heap.size + 1 := by rw [hw1]; exact World.size_alloc _ _
  have hsrc : Src Try.prog i.size 31 (.slice (some ⟨w.heap.size, 0, none⟩) 1 1) 1 (lgCells y) w1 := by
    rw [hw1, hsz]
    exact src_row w _ _ Try.underlying31 (lgCells y) (fun u hu => by
      simp only [lgCells, List.mem_cons, List.not_mem_nil, or_false] at hu
      rcases hu with rfl | rfl | rfl <;> rfl) 3 rfl _ rfl 1
  obtain ⟨b', cap', W, r1, r2, r3, r4⟩ := run_append_v w1 31 ty 34 i _ Try.underlying31 hi hz (by rw [hsz]; rfl) (by omega) gb cp ws.length _ (by rw [hsz]; exact hr.below hbel) _ _ hsrc (by omega)
  rw [hsz] at r2
  rw [← hw1]
  refine ⟨b', cap', W, r1, ?_, ?_, ⟨r4.os.trans hbel.os, r4.tape.trans hbel.tape, r4.output.trans hbel.output, Nat.le_trans hbel.size r4.size, fun k hk hne => (r4.block k (by omega) hne).trans (hbel.block k hk)⟩⟩
  · rw [List.length_append, List.flatMap_append, List.flatMap_singleton]; exact r2
  · rcases r3 with e | e
    · exact .inl e
    · exact .inr (by omega)
set_option maxRecDepth 100000 in
set_option maxHeartbeats 1600000 in
theorem rlogs_c (h : RefC w x rb cap rs) (hlen : rs.length < 1000000) (hsm : ∀ l ∈ logsOf (rabs rs), (l.topics.length : Int) ≤ 281474976710656) :
    Calls Try.prog 26 #[.pointer (some ⟨x, 0, none⟩)] w fun e w' => ∃ (gb : Option Nat) (cp : Nat), e = .returned (.slice (gb.map fun b => ⟨b, 0, none⟩) (logsOf (rabs rs)).length cp) ∧
      LogsAt w' gb (logsOf (rabs rs)).length (logsOf (rabs rs)) ∧ Below w.heap.size w w' := by
  obtain ⟨n, hn⟩ : ∃ n, n = rs.length := ⟨_, rfl⟩
  have hnI : (n : Int) ≤ 1000000 := by omega
  have H := Lib.hid (And.intro h (And.intro hn hsm))
  clear h hlen hn hsm
  go_enter Try.func26, Try.ntmps26
  go_wp2_with fail
  go_loopw [3, 4] (fun o i wr => ∃ (j : Nat) (gb : Option Nat) (cp : Nat), i = .int .i64 j ∧ (j : Int) ≤ n ∧ o = .slice (gb.map fun b => ⟨b, 0, none⟩) (rlogs (rs.take j)).length cp ∧
    VRow 34 3 wr gb cp (rlogs (rs.take j)).length ((rlogs (rs.take j)).flatMap lgCells) ∧ (∀ b, gb = some b → w.heap.size ≤ b) ∧ Below w.heap.size w wr) (fun _ i _ => n - (intOf i).toNat)
  case atStart => exact ⟨0, none, 0, rfl, by omega, rfl, ⟨rfl, Nat.le_refl _, rfl⟩, (fun b e => by cases e), Below.refl _ _⟩
  case round =>
    obtain ⟨j, gb, cp, rfl, hj, rfl, hR, hnew, hb⟩ := hrel
    have hj0 : (0 : Int) ≤ (j : Int) := by omega
    have hr := H.out.1.below hb
    have c0 := hr.cell0
    rw [← H.out.2.1] at c0
    obtain ⟨ws, hws⟩ : ∃ ws, ws = rlogs (rs.take j) := ⟨_, rfl⟩
    rw [← hws] at hR ⊢
    obtain ⟨m, hm⟩ : ∃ m, m = ws.length := ⟨_, rfl⟩
    obtain ⟨ga, hga⟩ : ∃ ga : Option Addr, ga = gb.map fun b => ⟨b, 0, none⟩ := ⟨_, rfl⟩
    rw [← hm, ← hga]
    by_cases hlt : (j : Int) < (n : Int)
    · have hjl : j < rs.length := by have := H.out.2.1; omega
      obtain ⟨b, rfl, hbl, hc⟩ := hr.cellsAt j hjl
      have hst := rlogs_take rs j hjl
      rw [← hws] at hst
      obtain ⟨r, hrj⟩ : ∃ r, r = rs[j] := ⟨_, rfl⟩
      rw [← hrj] at hc hst
      have d0 := hc 0 (by omega)
      rw [Nat.add_zero] at d0
      simp only [R.cells, List.getElem?_cons_zero] at d0
      by_cases hk : r.kind = 5
      · have hrl : ∃ l tb tc, r = .log l tb tc := by
          cases r with
          | key f a k => exact absurd hk (kd_ne f).2
          | refund q => exact absurd (show (4 : Int) = 5 from hk) (by omega)
          | log l tb tc => exact ⟨l, tb, tc, rfl⟩
        obtain ⟨l, tb, tc, rfl⟩ := hrl
        have d7 := hc 7 (by omega)
        have d8 := hc 8 (by omega)
        have d9 := hc 9 (by omega)
        simp only [R.cells, List.getElem?_cons_zero, List.getElem?_cons_succ, R.lg, R.tb, R.tc] at d7 d8 d9
        rw [hk] at d0
        have hm2 : ws.length < 1000000 := by
          have h1 : ws.length ≤ (rs.take j).length := by rw [hws]; exact List.length_filterMap_le _ _
          rw [List.length_take] at h1
          have := H.out.2.1
          omega
        obtain ⟨b', cap', W, r1, r2, r3, r4⟩ := run_append_log wr 31 gb cp ws hR (l, tb, tc) hm2
        obtain ⟨ta, hta⟩ : ∃ ta : Option Addr, ta = tb.map fun b => ⟨b, 0, none⟩ := ⟨_, rfl⟩
        obtain ⟨nt, hnt⟩ : ∃ nt, nt = l.topics.length := ⟨_, rfl⟩
        dsimp only at r1
        rw [← hta, ← hnt] at d8 r1
        rw [← hga, ← hm] at r1
        have HR := Lib.hid (And.intro r2 (And.intro r3 (And.intro r4 (And.intro hb (And.intro hnew (And.intro hst hm))))))
        have Happ := Lib.hid r1
        have hjl' := hjl
        clear hR hnew hb hr hws hm hga hbl hc hst hrj hk r1 r2 r3 r4 hta hnt hm2 hjl
        go_wp2_with (at_builtin; refine wpList_append_run _ _ 31 31 _ _ _ W (by rfl) (by rfl) Happ.out ?_; go_frame)
        obtain ⟨q1, q2, q3, q4, q5, q6, q7⟩ := HR.out
        have q6' : rlogs (rs.take (j + 1)) = ws ++ [(l, tb, tc)] := q6
        have hlen1 : (rlogs (rs.take (j + 1))).length = m + 1 := by rw [q6', List.length_append, ← q7]; rfl
        refine ⟨⟨j + 1, some b', cap', by go_num, by omega, by rw [hlen1]; rfl, by rw [q6']; exact q1, fun b e => ?_, ?_⟩, by simp [intOf]; omega⟩
        · cases e
          rcases q2 with e | e
          · exact q5 _ e
          · exact Nat.le_trans q4.size e
        · exact q4.trans ⟨q3.os, q3.tape, q3.output, q3.size, fun k hk => q3.block k (by have := q4.size; omega) (fun e => by have := q5 k e.symm; omega)⟩
      · have g0 : (r.kind == 5) = false := by simpa using hk
        obtain ⟨rk, hrk⟩ : ∃ z, z = r.kind := ⟨_, rfl⟩
        rw [← hrk] at g0 d0
        have hno : rlog r = none := by
          cases r with
          | key f a k => rfl
          | refund q => rfl
          | log l tb tc => exact absurd rfl hk
        rw [hno] at hst
        simp only [List.append_nil] at hst
        have HR := Lib.hid (And.intro hR (And.intro hnew (And.intro hb (And.intro hst (And.intro hm hga)))))
        clear hR hnew hb hr hws hm hga hbl hc hst hrj hk hrk hno
        go_wp2_with fail
        obtain ⟨q1, q2, q3, q4, q5, q6⟩ := HR.out
        exact ⟨⟨j + 1, gb, cp, by go_num, by omega, by rw [q4, q5, q6], by rw [q4]; exact q1, q2, q3⟩, by simp [intOf]; omega⟩
    · have hjn : rs.take j = rs := List.take_of_length_le (by have := H.out.2.1; omega)
      rw [hjn] at hws
      have hT : ∀ y ∈ ws, VRow 24 4 wr y.2.1 y.2.2 y.1.topics.length (W4s y.1.topics) := fun y hy => by
        rw [hws] at hy
        obtain ⟨r, hr1, hr2⟩ := List.mem_filterMap.1 hy
        have hok := hr.ok r hr1
        cases r with
        | key f a k => cases hr2
        | refund q => cases hr2
        | log l tb tc => cases hr2; exact hok
      have habs := rlogs_abs rs
      rw [← hws] at habs
      have hlen2 : (logsOf (rabs rs)).length = m := by rw [← habs, List.length_map, hm]
      have hL := wantAt hR hT (fun y hy => H.out.2.2 y.1 (by rw [← habs]; exact List.mem_map_of_mem hy))
      rw [habs, ← hm] at hL
      have HL := Lib.hid (And.intro hL (And.intro hlen2 (And.intro hga hb)))
      clear hjn hws hT habs hlen2 hL hR hnew hb hr hm hga
      go_wp2_with fail
      go_ret
      obtain ⟨q1, q2, q3, q4⟩ := HL.out
      exact ⟨gb, ⟨cp, by rw [q2, ← q3]; rfl⟩, by rw [q2]; exact q1, q4⟩
end
end Go.Proofs.Ytgjaennilkhejaa
